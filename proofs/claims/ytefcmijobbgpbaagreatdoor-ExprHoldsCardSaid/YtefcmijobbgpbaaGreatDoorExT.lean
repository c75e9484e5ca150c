/- The reader: what a level answers; a word. Conditions: those of each theorem. -/
import Derived.Test.YtefcmijobbgpbaaGreatDoorExP
namespace Go.Proofs.YtefcmijobbgpbaaGreatDoor
open Go.RowKit

theorem rtPart : RowTy Tryz.prog 22 58 5 56 := ⟨by kernel_rfl, by kernel_rfl, by decide⟩

/-- What reading answers. -/
def LevOut (R bk o n cap O deep B : Nat) (r : PRes) (e : Ending) (w' : World) : Prop :=
  match r with
  | .ok x k' => ∃ ao q cp, e = .returned (.slice ao q cp) ∧ x.length = q ∧ w'.ownsRow B 58 5 (.slice ao q cp) q (partsRow x) ∧ RdAt w' R bk o n cap O k' deep
  | .stuck a => e = stuckAt a

theorem LevOut.ok_form {R bk o n cap O deep B k' : Nat} {x : List PartR} {e : Ending} {w' : World} (h : LevOut R bk o n cap O deep B (.ok x k') e w') : ∃ ao q cp, e = .returned (.slice ao q cp) ∧ x.length = q ∧ w'.ownsRow B 58 5 (.slice ao q cp) q (partsRow x) ∧ RdAt w' R bk o n cap O k' deep := h
theorem LevOut.stuck_form {R bk o n cap O deep B : Nat} {a : Int} {e : Ending} {w' : World} (h : LevOut R bk o n cap O deep B (.stuck a) e w') : e = .panicked [{ v := .iface 146 (.agg #[.int .i64 a]), recovered := false }] := h

theorem RdCtx.keep {W w w' : World} {R bk o n cap O : Nat} {l : List TokR} (c : RdCtx W R bk o n cap O l) (hk : Keeps [] W w) (k : Keeps [R] w w') : Keeps [] W w' :=
  hk.trans k (by intro x hx hlt; simp at hx; subst hx; have := c.new; omega)

theorem RdAt.at_ {w : World} {R bk o n cap O k deep : Nat} (h : RdAt w R bk o n cap O k deep) : RdAt (w.setCell ⟨R, 1, none⟩ (.int .i64 ((k : Int) + 1))) R bk o n cap O (k + 1) deep := heap_set_self (o := 1) h

theorem tok_lt {W : World} {R bk o n cap O : Nat} {l : List TokR} (c : RdCtx W R bk o n cap O l) {k : Nat} (h : k < n) (hk : (tokAt l k).kind ≠ 0) : k + 1 < n := by
  rcases Nat.lt_or_ge (k + 1) n with h1 | h1
  · exact h1
  · have e : k = n - 1 := by have := c.pos; omega
    rw [e] at hk
    exact absurd c.last hk

theorem sign_yes {W w : World} {R bk o n cap O k deep : Nat} {l : List TokR} (s : ByteArray) (c : RdCtx W R bk o n cap O l) (hk : Keeps [] W w) (hr : RdAt w R bk o n cap O k deep) (h : k < n) (hs : isSignT (tokAt l k) s = true) :
    Calls Tryz.prog 130 #[.pointer (some ⟨R, 0, none⟩), .string s] w fun e w' => e = .returned (.bool true) ∧ RdAt w' R bk o n cap O (k + 1) deep ∧ Keeps [R] w w' := by
  have := sign_any s c hk hr h
  rw [hs, if_pos rfl] at this
  exact this
theorem sign_no {W w : World} {R bk o n cap O k deep : Nat} {l : List TokR} (s : ByteArray) (c : RdCtx W R bk o n cap O l) (hk : Keeps [] W w) (hr : RdAt w R bk o n cap O k deep) (h : k < n) (hs : isSignT (tokAt l k) s = false) :
    Calls Tryz.prog 130 #[.pointer (some ⟨R, 0, none⟩), .string s] w fun e w' => e = .returned (.bool false) ∧ RdAt w' R bk o n cap O k deep ∧ Keeps [R] w w' := by
  have := sign_any s c hk hr h
  rw [hs, if_neg (by simp)] at this
  exact this

/-- One part, new. -/
theorem one_out {w w3 : World} {R bk o n cap O k' deep s : Nat} (p : PartR) (hk : Keeps [R] w w3) (hr : RdAt w3 R bk o n cap O k' deep) (hs : w3.heap.size = s) :
    LevOut R bk o n cap O deep w.heap.size (.ok [p] k') (.returned (.slice (some ⟨s, 0, none⟩) 1 1)) (w3.alloc (.cells #[.int .i64 p.kind, .int .i64 p.n, .string p.s, .string p.stage, .int .i64 p.field] 58 (0, 0))) ∧
      Keeps [R] w (w3.alloc (.cells #[.int .i64 p.kind, .int .i64 p.n, .string p.s, .string p.stage, .int .i64 p.field] 58 (0, 0))) := by
  subst hs
  exact ⟨⟨_, 1, 1, rfl, rfl, own_mono (own_new w3 #[.int .i64 p.kind, .int .i64 p.n, .string p.s, .string p.stage, .int .i64 p.field] _ 5 1 rfl (by decide)) hk.size, hr.keep ((Keeps.refl [] w3).alloc _)⟩, hk.alloc _⟩

set_option maxHeartbeats 4000000 in
set_option maxRecDepth 100000 in
theorem word_own {W w : World} {R bk o n cap O k deep : Nat} {l : List TokR} (c : RdCtx W R bk o n cap O l) (hk : Keeps [] W w) (hr : RdAt w R bk o n cap O k deep) (h : k < n) (h1 : (tokAt l k).kind = 1) (hf : 0 ≤ fieldI (tokAt l k).s) :
    Calls Tryz.prog 129 #[.pointer (some ⟨R, 0, none⟩)] w fun e w' => LevOut R bk o n cap O deep w.heap.size (.ok [fieldP ⟨#[]⟩ (fieldI (tokAt l k).s)] (k + 1)) e w' ∧ Keeps [R] w w' := by
  have hn1 := tok_lt c h (by omega)
  have hf0 := run_tok0
  have hf1 := run_tok1
  have HF := fun s w hk => Lib.hid (field_any s w (c.glob.keep hk))
  have HSt := fun s w hk => Lib.hid (stage_any s w (c.glob.keep hk))
  have HNow := fun w k hk hr h => Lib.hid (now_any (W := W) (w := w) (k := k) (deep := deep) c hk hr h)
  have HStop := fun w k hk hr h => Lib.hid (stop_any (W := W) (w := w) (k := k) (deep := deep) c hk hr h)
  have HYes := fun w k hk hr h hs => Lib.hid (sign_yes (W := W) (w := w) (k := k) (deep := deep) bDot c hk hr h hs)
  have HNo := fun w k hk hr h hs => Lib.hid (sign_no (W := W) (w := w) (k := k) (deep := deep) bDot c hk hr h hs)
  simp only [stuckAt] at HStop
  simp only [tokAgg_eq] at HNow
  have HC := Lib.hid c
  have HK := Lib.hid hk
  have HR := Lib.hid hr
  have HL := Lib.hid h
  have HL1 := Lib.hid hn1
  have h63 : k ≤ 4097 := by have := c.few; omega
  obtain ⟨f, hfe⟩ : ∃ f, fieldI (tokAt l k).s = f := ⟨_, rfl⟩
  rw [hfe] at hf ⊢
  clear c hk hr h hn1 
  go_enter Tryz.func129, Tryz.ntmps129
  go_wp2_with fail
  refine (HNow w k HK.out HR.out HL.out).out.mono ?_
  rintro e w2 ⟨rfl, hk2⟩
  go_wp2_with fail
  refine (HF _ _ (HK.out.then hk2)).out.mono ?_
  rintro e w3 ⟨rfl, hk3⟩
  have hk4 := hk2.then hk3
  rw [hfe]
  obtain ⟨_, q1, _, _, zz1, _⟩ := rd_cells (HR.out.keep hk4)
  go_wp2_with fail
  go_returns
  exact one_out (fieldP ⟨#[]⟩ f) ((hk4.mono (by simp)).setCell (.inl (by simp)) _) (HR.out.keep hk4).at_ (by simp)


set_option maxHeartbeats 4000000 in
set_option maxRecDepth 100000 in
theorem word_nostage {W w : World} {R bk o n cap O k deep : Nat} {l : List TokR} (c : RdCtx W R bk o n cap O l) (hk : Keeps [] W w) (hr : RdAt w R bk o n cap O k deep) (h : k < n) (h1 : (tokAt l k).kind = 1) (hf : fieldI (tokAt l k).s < 0) (hse : stageM (tokAt l k).s = false) :
    Calls Tryz.prog 129 #[.pointer (some ⟨R, 0, none⟩)] w fun e w' => LevOut R bk o n cap O deep w.heap.size (.stuck (tokAt l k).at_) e w' ∧ Keeps [R] w w' := by
  have hn1 := tok_lt c h (by omega)
  have hf0 := run_tok0
  have hf1 := run_tok1
  have HF := fun s w hk => Lib.hid (field_any s w (c.glob.keep hk))
  have HSt := fun s w hk => Lib.hid (stage_any s w (c.glob.keep hk))
  have HNow := fun w k hk hr h => Lib.hid (now_any (W := W) (w := w) (k := k) (deep := deep) c hk hr h)
  have HStop := fun w k hk hr h => Lib.hid (stop_any (W := W) (w := w) (k := k) (deep := deep) c hk hr h)
  have HYes := fun w k hk hr h hs => Lib.hid (sign_yes (W := W) (w := w) (k := k) (deep := deep) bDot c hk hr h hs)
  have HNo := fun w k hk hr h hs => Lib.hid (sign_no (W := W) (w := w) (k := k) (deep := deep) bDot c hk hr h hs)
  simp only [stuckAt] at HStop
  simp only [tokAgg_eq] at HNow
  have HC := Lib.hid c
  have HK := Lib.hid hk
  have HR := Lib.hid hr
  have HL := Lib.hid h
  have HL1 := Lib.hid hn1
  have h63 : k ≤ 4097 := by have := c.few; omega
  obtain ⟨f, hfe⟩ : ∃ f, fieldI (tokAt l k).s = f := ⟨_, rfl⟩
  rw [hfe] at hf
  clear c hk hr h hn1 
  go_enter Tryz.func129, Tryz.ntmps129
  go_wp2_with fail
  refine (HNow w k HK.out HR.out HL.out).out.mono ?_
  rintro e w2 ⟨rfl, hk2⟩
  go_wp2_with fail
  refine (HF _ _ (HK.out.then hk2)).out.mono ?_
  rintro e w3 ⟨rfl, hk3⟩
  have hk4 := hk2.then hk3
  rw [hfe]
  go_wp2_with fail
  refine (HSt _ _ (HK.out.then hk4)).out.mono ?_
  rintro e w4 ⟨rfl, hk5⟩
  have hk6 := hk4.then hk5
  rw [hse]
  go_wp2_with fail
  refine (HStop w4 k (HK.out.then hk6) (HR.out.keep hk6) HL.out).out.mono ?_
  rintro e w9 ⟨rfl, hk9⟩
  exact ⟨rfl, rfl, (hk6.then hk9).mono (by simp)⟩


set_option maxHeartbeats 4000000 in
set_option maxRecDepth 100000 in
theorem word_nodot {W w : World} {R bk o n cap O k deep : Nat} {l : List TokR} (c : RdCtx W R bk o n cap O l) (hk : Keeps [] W w) (hr : RdAt w R bk o n cap O k deep) (h : k < n) (h1 : (tokAt l k).kind = 1) (hf : fieldI (tokAt l k).s < 0) (hse : stageM (tokAt l k).s = true) (hd : isSignT (tokAt l (k + 1)) bDot = false) :
    Calls Tryz.prog 129 #[.pointer (some ⟨R, 0, none⟩)] w fun e w' => LevOut R bk o n cap O deep w.heap.size (.stuck (tokAt l (k + 1)).at_) e w' ∧ Keeps [R] w w' := by
  have hn1 := tok_lt c h (by omega)
  have hf0 := run_tok0
  have hf1 := run_tok1
  have HF := fun s w hk => Lib.hid (field_any s w (c.glob.keep hk))
  have HSt := fun s w hk => Lib.hid (stage_any s w (c.glob.keep hk))
  have HNow := fun w k hk hr h => Lib.hid (now_any (W := W) (w := w) (k := k) (deep := deep) c hk hr h)
  have HStop := fun w k hk hr h => Lib.hid (stop_any (W := W) (w := w) (k := k) (deep := deep) c hk hr h)
  have HYes := fun w k hk hr h hs => Lib.hid (sign_yes (W := W) (w := w) (k := k) (deep := deep) bDot c hk hr h hs)
  have HNo := fun w k hk hr h hs => Lib.hid (sign_no (W := W) (w := w) (k := k) (deep := deep) bDot c hk hr h hs)
  simp only [stuckAt] at HStop
  simp only [tokAgg_eq] at HNow
  have HC := Lib.hid c
  have HK := Lib.hid hk
  have HR := Lib.hid hr
  have HL := Lib.hid h
  have HL1 := Lib.hid hn1
  have h63 : k ≤ 4097 := by have := c.few; omega
  obtain ⟨f, hfe⟩ : ∃ f, fieldI (tokAt l k).s = f := ⟨_, rfl⟩
  rw [hfe] at hf
  clear c hk hr h hn1 
  go_enter Tryz.func129, Tryz.ntmps129
  go_wp2_with fail
  refine (HNow w k HK.out HR.out HL.out).out.mono ?_
  rintro e w2 ⟨rfl, hk2⟩
  go_wp2_with fail
  refine (HF _ _ (HK.out.then hk2)).out.mono ?_
  rintro e w3 ⟨rfl, hk3⟩
  have hk4 := hk2.then hk3
  rw [hfe]
  go_wp2_with fail
  refine (HSt _ _ (HK.out.then hk4)).out.mono ?_
  rintro e w4 ⟨rfl, hk5⟩
  have hk6 := hk4.then hk5
  rw [hse]
  obtain ⟨_, q1, _, _, zz1, _⟩ := rd_cells (HR.out.keep hk6)
  go_wp2_with fail
  have hka : Keeps [R] w (w4.setCell ⟨R, 1, none⟩ (.int .i64 ((k : Int) + 1))) := (hk6.mono (by simp)).setCell (.inl (by simp)) _
  have hra := (HR.out.keep hk6).at_
  refine (HNo _ (k + 1) (HC.out.keep HK.out hka) hra HL1.out hd).out.mono ?_
  rintro e w5 ⟨rfl, hr5, hk7⟩
  have hkb := hka.trans hk7 (fun x hx _ => hx)
  go_wp2_with fail
  refine (HStop w5 (k + 1) (HC.out.keep HK.out hkb) hr5 HL1.out).out.mono ?_
  rintro e w9 ⟨rfl, hk9⟩
  exact ⟨rfl, rfl, hkb.then (hk9.mono (by simp))⟩


set_option maxHeartbeats 4000000 in
set_option maxRecDepth 100000 in
theorem word_noword {W w : World} {R bk o n cap O k deep : Nat} {l : List TokR} (c : RdCtx W R bk o n cap O l) (hk : Keeps [] W w) (hr : RdAt w R bk o n cap O k deep) (h : k < n) (h1 : (tokAt l k).kind = 1) (hf : fieldI (tokAt l k).s < 0) (hse : stageM (tokAt l k).s = true) (hd : isSignT (tokAt l (k + 1)) bDot = true) (h2 : ¬ (tokAt l (k + 2)).kind = 1) :
    Calls Tryz.prog 129 #[.pointer (some ⟨R, 0, none⟩)] w fun e w' => LevOut R bk o n cap O deep w.heap.size (.stuck (tokAt l (k + 2)).at_) e w' ∧ Keeps [R] w w' := by
  have hn1 := tok_lt c h (by omega)
  have hn2 : k + 2 < n := tok_lt c hn1 (fun e => by have := sign_kind (by rw [hd]; simp : ¬ isSignT (tokAt l (k + 1)) bDot = false); exact this e)
  have hf0 := run_tok0
  have hf1 := run_tok1
  have HF := fun s w hk => Lib.hid (field_any s w (c.glob.keep hk))
  have HSt := fun s w hk => Lib.hid (stage_any s w (c.glob.keep hk))
  have HNow := fun w k hk hr h => Lib.hid (now_any (W := W) (w := w) (k := k) (deep := deep) c hk hr h)
  have HStop := fun w k hk hr h => Lib.hid (stop_any (W := W) (w := w) (k := k) (deep := deep) c hk hr h)
  have HYes := fun w k hk hr h hs => Lib.hid (sign_yes (W := W) (w := w) (k := k) (deep := deep) bDot c hk hr h hs)
  have HNo := fun w k hk hr h hs => Lib.hid (sign_no (W := W) (w := w) (k := k) (deep := deep) bDot c hk hr h hs)
  simp only [stuckAt] at HStop
  simp only [tokAgg_eq] at HNow
  have HC := Lib.hid c
  have HK := Lib.hid hk
  have HR := Lib.hid hr
  have HL := Lib.hid h
  have HL1 := Lib.hid hn1
  have HL2 := Lib.hid hn2
  have h63 : k ≤ 4097 := by have := c.few; omega
  obtain ⟨f, hfe⟩ : ∃ f, fieldI (tokAt l k).s = f := ⟨_, rfl⟩
  rw [hfe] at hf
  have e1 : ((tokAt l (k + 2)).kind == 1) = false := by rw [beq_eq_false_iff_ne]; exact h2
  clear c hk hr h hn1 h2 hn2
  go_enter Tryz.func129, Tryz.ntmps129
  go_wp2_with fail
  refine (HNow w k HK.out HR.out HL.out).out.mono ?_
  rintro e w2 ⟨rfl, hk2⟩
  go_wp2_with fail
  refine (HF _ _ (HK.out.then hk2)).out.mono ?_
  rintro e w3 ⟨rfl, hk3⟩
  have hk4 := hk2.then hk3
  rw [hfe]
  go_wp2_with fail
  refine (HSt _ _ (HK.out.then hk4)).out.mono ?_
  rintro e w4 ⟨rfl, hk5⟩
  have hk6 := hk4.then hk5
  rw [hse]
  obtain ⟨_, q1, _, _, zz1, _⟩ := rd_cells (HR.out.keep hk6)
  go_wp2_with fail
  have hka : Keeps [R] w (w4.setCell ⟨R, 1, none⟩ (.int .i64 ((k : Int) + 1))) := (hk6.mono (by simp)).setCell (.inl (by simp)) _
  have hra := (HR.out.keep hk6).at_
  refine (HYes _ (k + 1) (HC.out.keep HK.out hka) hra HL1.out hd).out.mono ?_
  rintro e w5 ⟨rfl, hr5, hk7⟩
  have hkb := hka.trans hk7 (fun x hx _ => hx)
  have HR5 := Lib.hid hr5
  clear hr5
  go_wp2_with fail
  refine (HNow w5 (k + 2) (HC.out.keep HK.out hkb) HR5.out HL2.out).out.mono ?_
  rintro e w6 ⟨rfl, hk8⟩
  have hkc := hkb.then hk8
  go_wp2_with fail
  refine (HStop w6 (k + 2) (HC.out.keep HK.out hkc) (HR5.out.keep hk8) HL2.out).out.mono ?_
  rintro e w9 ⟨rfl, hk9⟩
  exact ⟨rfl, rfl, hkc.then hk9⟩


set_option maxHeartbeats 4000000 in
set_option maxRecDepth 100000 in
theorem word_nofield {W w : World} {R bk o n cap O k deep : Nat} {l : List TokR} (c : RdCtx W R bk o n cap O l) (hk : Keeps [] W w) (hr : RdAt w R bk o n cap O k deep) (h : k < n) (h1 : (tokAt l k).kind = 1) (hf : fieldI (tokAt l k).s < 0) (hse : stageM (tokAt l k).s = true) (hd : isSignT (tokAt l (k + 1)) bDot = true) (h2 : (tokAt l (k + 2)).kind = 1) (hg : fieldI (tokAt l (k + 2)).s < 0) :
    Calls Tryz.prog 129 #[.pointer (some ⟨R, 0, none⟩)] w fun e w' => LevOut R bk o n cap O deep w.heap.size (.stuck (tokAt l (k + 2)).at_) e w' ∧ Keeps [R] w w' := by
  have hn1 := tok_lt c h (by omega)
  have hn2 : k + 2 < n := tok_lt c hn1 (fun e => by have := sign_kind (by rw [hd]; simp : ¬ isSignT (tokAt l (k + 1)) bDot = false); exact this e)
  have hf0 := run_tok0
  have hf1 := run_tok1
  have HF := fun s w hk => Lib.hid (field_any s w (c.glob.keep hk))
  have HSt := fun s w hk => Lib.hid (stage_any s w (c.glob.keep hk))
  have HNow := fun w k hk hr h => Lib.hid (now_any (W := W) (w := w) (k := k) (deep := deep) c hk hr h)
  have HStop := fun w k hk hr h => Lib.hid (stop_any (W := W) (w := w) (k := k) (deep := deep) c hk hr h)
  have HYes := fun w k hk hr h hs => Lib.hid (sign_yes (W := W) (w := w) (k := k) (deep := deep) bDot c hk hr h hs)
  have HNo := fun w k hk hr h hs => Lib.hid (sign_no (W := W) (w := w) (k := k) (deep := deep) bDot c hk hr h hs)
  simp only [stuckAt] at HStop
  simp only [tokAgg_eq] at HNow
  have HC := Lib.hid c
  have HK := Lib.hid hk
  have HR := Lib.hid hr
  have HL := Lib.hid h
  have HL1 := Lib.hid hn1
  have HL2 := Lib.hid hn2
  have h63 : k ≤ 4097 := by have := c.few; omega
  obtain ⟨f, hfe⟩ : ∃ f, fieldI (tokAt l k).s = f := ⟨_, rfl⟩
  rw [hfe] at hf
  obtain ⟨f2, hfe2⟩ : ∃ f2, fieldI (tokAt l (k + 2)).s = f2 := ⟨_, rfl⟩
  rw [hfe2] at hg
  have e1 : ((tokAt l (k + 2)).kind == 1) = true := by rw [h2]; rfl
  clear c hk hr h hn1 h2 hn2
  go_enter Tryz.func129, Tryz.ntmps129
  go_wp2_with fail
  refine (HNow w k HK.out HR.out HL.out).out.mono ?_
  rintro e w2 ⟨rfl, hk2⟩
  go_wp2_with fail
  refine (HF _ _ (HK.out.then hk2)).out.mono ?_
  rintro e w3 ⟨rfl, hk3⟩
  have hk4 := hk2.then hk3
  rw [hfe]
  go_wp2_with fail
  refine (HSt _ _ (HK.out.then hk4)).out.mono ?_
  rintro e w4 ⟨rfl, hk5⟩
  have hk6 := hk4.then hk5
  rw [hse]
  obtain ⟨_, q1, _, _, zz1, _⟩ := rd_cells (HR.out.keep hk6)
  go_wp2_with fail
  have hka : Keeps [R] w (w4.setCell ⟨R, 1, none⟩ (.int .i64 ((k : Int) + 1))) := (hk6.mono (by simp)).setCell (.inl (by simp)) _
  have hra := (HR.out.keep hk6).at_
  refine (HYes _ (k + 1) (HC.out.keep HK.out hka) hra HL1.out hd).out.mono ?_
  rintro e w5 ⟨rfl, hr5, hk7⟩
  have hkb := hka.trans hk7 (fun x hx _ => hx)
  have HR5 := Lib.hid hr5
  clear hr5
  go_wp2_with fail
  refine (HNow w5 (k + 2) (HC.out.keep HK.out hkb) HR5.out HL2.out).out.mono ?_
  rintro e w6 ⟨rfl, hk8⟩
  have hkc := hkb.then hk8
  go_wp2_with fail
  refine (HNow w6 (k + 2) (HC.out.keep HK.out hkc) (HR5.out.keep hk8) HL2.out).out.mono ?_
  rintro e w7 ⟨rfl, hk10⟩
  go_wp2_with fail
  refine (HF _ _ ((HC.out.keep HK.out hkc).then hk10)).out.mono ?_
  rintro e w8 ⟨rfl, hk11⟩
  have hkd := (hkc.then hk10).then hk11
  have hr8 := ((HR5.out.keep hk8).keep hk10).keep hk11
  rw [hfe2]
  go_wp2_with fail
  refine (HStop w8 (k + 2) (HC.out.keep HK.out hkd) hr8 HL2.out).out.mono ?_
  rintro e w9 ⟨rfl, hk9⟩
  exact ⟨rfl, rfl, hkd.then hk9⟩


set_option maxHeartbeats 4000000 in
set_option maxRecDepth 100000 in
theorem word_stage {W w : World} {R bk o n cap O k deep : Nat} {l : List TokR} (c : RdCtx W R bk o n cap O l) (hk : Keeps [] W w) (hr : RdAt w R bk o n cap O k deep) (h : k < n) (h1 : (tokAt l k).kind = 1) (hf : fieldI (tokAt l k).s < 0) (hse : stageM (tokAt l k).s = true) (hd : isSignT (tokAt l (k + 1)) bDot = true) (h2 : (tokAt l (k + 2)).kind = 1) (hg : 0 ≤ fieldI (tokAt l (k + 2)).s) :
    Calls Tryz.prog 129 #[.pointer (some ⟨R, 0, none⟩)] w fun e w' => LevOut R bk o n cap O deep w.heap.size (.ok [fieldP (tokAt l k).s (fieldI (tokAt l (k + 2)).s)] (k + 3)) e w' ∧ Keeps [R] w w' := by
  have hn1 := tok_lt c h (by omega)
  have hn2 : k + 2 < n := tok_lt c hn1 (fun e => by have := sign_kind (by rw [hd]; simp : ¬ isSignT (tokAt l (k + 1)) bDot = false); exact this e)
  have hf0 := run_tok0
  have hf1 := run_tok1
  have HF := fun s w hk => Lib.hid (field_any s w (c.glob.keep hk))
  have HSt := fun s w hk => Lib.hid (stage_any s w (c.glob.keep hk))
  have HNow := fun w k hk hr h => Lib.hid (now_any (W := W) (w := w) (k := k) (deep := deep) c hk hr h)
  have HStop := fun w k hk hr h => Lib.hid (stop_any (W := W) (w := w) (k := k) (deep := deep) c hk hr h)
  have HYes := fun w k hk hr h hs => Lib.hid (sign_yes (W := W) (w := w) (k := k) (deep := deep) bDot c hk hr h hs)
  have HNo := fun w k hk hr h hs => Lib.hid (sign_no (W := W) (w := w) (k := k) (deep := deep) bDot c hk hr h hs)
  simp only [stuckAt] at HStop
  simp only [tokAgg_eq] at HNow
  have HC := Lib.hid c
  have HK := Lib.hid hk
  have HR := Lib.hid hr
  have HL := Lib.hid h
  have HL1 := Lib.hid hn1
  have HL2 := Lib.hid hn2
  have h63 : k ≤ 4097 := by have := c.few; omega
  obtain ⟨f, hfe⟩ : ∃ f, fieldI (tokAt l k).s = f := ⟨_, rfl⟩
  rw [hfe] at hf
  obtain ⟨f2, hfe2⟩ : ∃ f2, fieldI (tokAt l (k + 2)).s = f2 := ⟨_, rfl⟩
  rw [hfe2] at hg
  have e1 : ((tokAt l (k + 2)).kind == 1) = true := by rw [h2]; rfl
  rw [hfe2]
  clear c hk hr h hn1 h2 hn2
  go_enter Tryz.func129, Tryz.ntmps129
  go_wp2_with fail
  refine (HNow w k HK.out HR.out HL.out).out.mono ?_
  rintro e w2 ⟨rfl, hk2⟩
  go_wp2_with fail
  refine (HF _ _ (HK.out.then hk2)).out.mono ?_
  rintro e w3 ⟨rfl, hk3⟩
  have hk4 := hk2.then hk3
  rw [hfe]
  go_wp2_with fail
  refine (HSt _ _ (HK.out.then hk4)).out.mono ?_
  rintro e w4 ⟨rfl, hk5⟩
  have hk6 := hk4.then hk5
  rw [hse]
  obtain ⟨_, q1, _, _, zz1, _⟩ := rd_cells (HR.out.keep hk6)
  go_wp2_with fail
  have hka : Keeps [R] w (w4.setCell ⟨R, 1, none⟩ (.int .i64 ((k : Int) + 1))) := (hk6.mono (by simp)).setCell (.inl (by simp)) _
  have hra := (HR.out.keep hk6).at_
  refine (HYes _ (k + 1) (HC.out.keep HK.out hka) hra HL1.out hd).out.mono ?_
  rintro e w5 ⟨rfl, hr5, hk7⟩
  have hkb := hka.trans hk7 (fun x hx _ => hx)
  have HR5 := Lib.hid hr5
  clear hr5
  go_wp2_with fail
  refine (HNow w5 (k + 2) (HC.out.keep HK.out hkb) HR5.out HL2.out).out.mono ?_
  rintro e w6 ⟨rfl, hk8⟩
  have hkc := hkb.then hk8
  go_wp2_with fail
  refine (HNow w6 (k + 2) (HC.out.keep HK.out hkc) (HR5.out.keep hk8) HL2.out).out.mono ?_
  rintro e w7 ⟨rfl, hk10⟩
  go_wp2_with fail
  refine (HF _ _ ((HC.out.keep HK.out hkc).then hk10)).out.mono ?_
  rintro e w8 ⟨rfl, hk11⟩
  have hkd := (hkc.then hk10).then hk11
  have hr8 := ((HR5.out.keep hk8).keep hk10).keep hk11
  rw [hfe2]
  obtain ⟨_, q1, _, _, zz1, _⟩ := rd_cells hr8
  have HR8 := Lib.hid hr8
  clear hr8
  go_wp2_with fail
  go_returns
  exact one_out (fieldP (tokAt l k).s f2) (hkd.setCell (.inl (by simp)) _) HR8.out.at_ (by simp)


/-- A word, any. -/
theorem word_any {W w : World} {R bk o n cap O k deep : Nat} {l : List TokR} (c : RdCtx W R bk o n cap O l) (hk : Keeps [] W w) (hr : RdAt w R bk o n cap O k deep) (h : k < n) (h1 : (tokAt l k).kind = 1) :
    Calls Tryz.prog 129 #[.pointer (some ⟨R, 0, none⟩)] w fun e w' => LevOut R bk o n cap O deep w.heap.size (wordR l k) e w' ∧ Keeps [R] w w' := by
  unfold wordR
  by_cases hf : 0 ≤ fieldI (tokAt l k).s
  · rw [if_pos hf]
    exact word_own c hk hr h h1 hf
  · rw [if_neg hf]
    cases hs : stageM (tokAt l k).s with
    | false =>
      rw [if_pos rfl]
      exact word_nostage c hk hr h h1 (by omega) hs
    | true =>
      rw [if_neg (by simp)]
      cases hd : isSignT (tokAt l (k + 1)) bDot with
      | false =>
        rw [if_pos rfl]
        exact word_nodot c hk hr h h1 (by omega) hs hd
      | true =>
        rw [if_neg (by simp)]
        by_cases h2 : (tokAt l (k + 2)).kind = 1
        · by_cases hg : 0 ≤ fieldI (tokAt l (k + 2)).s
          · rw [if_pos ⟨h2, hg⟩]
            exact word_stage c hk hr h h1 (by omega) hs hd h2 hg
          · rw [if_neg (fun h => hg h.2)]
            exact word_nofield c hk hr h h1 (by omega) hs hd h2 (by omega)
        · rw [if_neg (fun h => h2 h.1)]
          exact word_noword c hk hr h h1 (by omega) hs hd h2

end Go.Proofs.YtefcmijobbgpbaaGreatDoor
