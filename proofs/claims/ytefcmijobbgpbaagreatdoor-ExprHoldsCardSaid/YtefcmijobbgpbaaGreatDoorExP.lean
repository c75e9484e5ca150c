/- The reader's small functions. Conditions: those of each theorem. -/
import Derived.Test.YtefcmijobbgpbaaGreatDoorExC
import Derived.Test.YtefcmijobbgpbaaGreatDoorExD
import Derived.Test.YtefcmijobbgpbaaGreatDoorExE
import Derived.Test.YtefcmijobbgpbaaGreatDoorExN
import Derived.WalkLawsBesides
namespace Go.Proofs.YtefcmijobbgpbaaGreatDoor
open Go.RowKit

/-- The reader lies in the block R. -/
def RdAt (w : World) (R bk o n cap O k deep : Nat) : Prop :=
  w.heap[R]? = some (.cells #[.slice (some ⟨bk, o, none⟩) n cap, .int .i64 k, .int .i64 deep, .slice (some ⟨O, 0, none⟩) 9 9] 118 (0, 0))

/-- What a reader reads: tokens, of which the last one is an end, and no other. -/
structure RdCtx (W : World) (R bk o n cap O : Nat) (l : List TokR) : Prop where
  glob : GlobX W
  toks : TokSl W bk o l
  ops : OpsAt W O
  new : W.heap.size ≤ R
  len : l.length = n
  pos : 1 ≤ n
  few : n ≤ 4097
  room : n ≤ cap
  big : cap ≤ 9223372036854775807
  ok : ∀ x ∈ l, x.ok
  last : (tokAt l (n - 1)).kind = 0

theorem rd_cells {w : World} {R bk o n cap O k deep : Nat} (h : RdAt w R bk o n cap O k deep) :
    w.cell? ⟨R, 0, none⟩ = some (.slice (some ⟨bk, o, none⟩) n cap) ∧ w.cell? ⟨R, 1, none⟩ = some (.int .i64 k) ∧ w.cell? ⟨R, 2, none⟩ = some (.int .i64 deep) ∧ w.cell? ⟨R, 3, none⟩ = some (.slice (some ⟨O, 0, none⟩) 9 9) ∧
      w.frozen? ⟨R, 1, none⟩ = false ∧ w.frozen? ⟨R, 2, none⟩ = false := by
  unfold RdAt at h
  simp [World.cell?, World.frozen?, h]

theorem tokAt_some {l : List TokR} {k : Nat} (h : k < l.length) : l[k]? = some (tokAt l k) := by
  unfold tokAt
  rw [List.getD_eq_getElem?_getD, List.getElem?_eq_getElem h]
  rfl

theorem tok_cells {W w : World} {R bk o n cap O : Nat} {l : List TokR} (c : RdCtx W R bk o n cap O l) (hk : Keeps [] W w) {k : Nat} (h : k < n) :
    w.cell? ⟨bk, o + k * 4, none⟩ = some (.int .i64 (tokAt l k).kind) ∧ w.cell? ⟨bk, o + k * 4 + 1, none⟩ = some (.string (tokAt l k).s) ∧ w.cell? ⟨bk, o + k * 4 + 2, none⟩ = some (.int .i64 (tokAt l k).n) ∧ w.cell? ⟨bk, o + k * 4 + 3, none⟩ = some (.int .i64 (tokAt l k).at_) := by
  obtain ⟨h0, h1, h2, h3⟩ := c.toks k (tokAt l k) (tokAt_some (by rw [c.len]; exact h))
  exact ⟨hk.cell h0 (by simp), hk.cell h1 (by simp), hk.cell h2 (by simp), hk.cell h3 (by simp)⟩

def tokAgg (t : TokR) : Value := .agg #[.int .i64 t.kind, .string t.s, .int .i64 t.n, .int .i64 t.at_]

set_option maxHeartbeats 2000000 in
set_option maxRecDepth 100000 in
theorem now_any {W w : World} {R bk o n cap O k deep : Nat} {l : List TokR} (c : RdCtx W R bk o n cap O l) (hk : Keeps [] W w) (hr : RdAt w R bk o n cap O k deep) (h : k < n) :
    Calls Tryz.prog 107 #[.pointer (some ⟨R, 0, none⟩)] w fun e w' => e = .returned (tokAgg (tokAt l k)) ∧ Keeps [] w w' := by
  have hk0 := Keeps.refl [] w
  have hk1 := hk0.alloc (.cells #[.int .i64 0, .string ⟨#[]⟩, .int .i64 0, .int .i64 0] 91 (0, 0))
  obtain ⟨r0, r1, r2, r3, _, _⟩ := rd_cells hr
  obtain ⟨t0, t1, t2, t3⟩ := tok_cells c hk h
  unfold tokAgg
  generalize tokAt l k = t at *
  have b0 : (0 : Int) ≤ (k : Int) := by omega
  have b1 : (k : Int) < (n : Int) := by omega
  clear hr c hk
  go_enter Tryz.func107, Tryz.ntmps107
  go_wp2_with fail
  have s0 := hk1.cell r0 (by simp)
  have s1 := hk1.cell r1 (by simp)
  have s2 := hk1.cell t0 (by simp)
  have s3 := hk1.cell t1 (by simp)
  have s4 := hk1.cell t2 (by simp)
  have s5 := hk1.cell t3 (by simp)
  refine wp_region_chain (fun W' => W'.cell? ⟨R, 0, none⟩ = some (.slice (some ⟨bk, o, none⟩) n cap) ∧ W'.cell? ⟨R, 1, none⟩ = some (.int .i64 k) ∧ W'.cell? ⟨bk, o + k * 4, none⟩ = some (.int .i64 t.kind) ∧ W'.cell? ⟨bk, o + k * 4 + 1, none⟩ = some (.string t.s) ∧ W'.cell? ⟨bk, o + k * 4 + 2, none⟩ = some (.int .i64 t.n) ∧ W'.cell? ⟨bk, o + k * 4 + 3, none⟩ = some (.int .i64 t.at_)) [10] [(0, 0), (1, 0), (2, 0), (3, 1), (4, 0), (5, 0), (6, 0), (7, 1), (8, 0), (9, 1), (10, 3)] (by kernel_rfl) (by kernel_rfl) (fun _ d _ _ _ h => by cases d <;> exact h) ⟨s0, s1, s2, s3, s4, s5⟩ ?_
  repeat (first
    | (refine wpC_pure (v := ?_) rfl (by rfl) ?_ ?_
       rotate_left 1
       · (intro w; go_simp; try with_reducible rfl)
       try simp only [Act.put, List.setIfInBounds_toArray, List.set_cons_zero, List.set_cons_succ, List.getElem_toArray, List.getElem_cons_succ, List.getElem_cons_zero])
    | (refine wpC_held (v := ?_) rfl (by rfl) ?_ ?_
       rotate_left 1
       · (rintro w ⟨hs0, hs1, hs2, hs3, hs4, hs5⟩; go_simp; try with_reducible rfl)
       try simp only [Act.put, List.setIfInBounds_toArray, List.set_cons_zero, List.set_cons_succ, List.getElem_toArray, List.getElem_cons_succ, List.getElem_cons_zero]))
  refine wpC_last rfl (by rfl) (fun K hK => ?_)
  have hb := heap_alloc_new w (.cells #[.int .i64 0, .string ⟨#[]⟩, .int .i64 0, .int .i64 0] 91 (0, 0))
  have hb := drew_block hb
  obtain ⟨z0, z1, z2, z3, y0, y1, y2, y3⟩ := tok_block hb
  have hk2 := hk1.drew
  obtain ⟨w1, hw1⟩ : ∃ w1, w1 = (w.alloc (.cells #[.int .i64 0, .string ⟨#[]⟩, .int .i64 0, .int .i64 0] 91 (0, 0))).drew := ⟨_, rfl⟩
  rw [← hw1] at hb z0 z1 z2 z3 y0 y1 y2 y3 hk2 ⊢
  clear hw1
  go_simp
  refine hK _ _ ?_
  clear hK K
  try simp only [Act.put, List.setIfInBounds_toArray, List.set_cons_zero, List.set_cons_succ, List.getElem_toArray, List.getElem_cons_succ, List.getElem_cons_zero]
  refine wpC_nil ?_
  go_wp2_with fail
  refine ret_row1 rfl w.heap.size _ _ _ _ rfl (set4_block hb _ _ _ _) Tryz.underlying91 rfl (by kernel_rfl) rfl ?_
  exact ⟨rfl, (((hk2.setCell (.inr (Nat.le_refl _)) _).setCell (.inr (Nat.le_refl _)) _).setCell (.inr (Nat.le_refl _)) _).setCell (.inr (Nat.le_refl _)) _⟩

theorem run_tok0 (k n a : Int) (s : ByteArray) (w : World) : (Instr.field 91 (.agg #[.int .i64 k, .string s, .int .i64 n, .int .i64 a]) 0).run Tryz.prog w = .ok (.int .i64 k) w := by kernel_rfl
theorem run_tok1 (k n a : Int) (s : ByteArray) (w : World) : (Instr.field 91 (.agg #[.int .i64 k, .string s, .int .i64 n, .int .i64 a]) 1).run Tryz.prog w = .ok (.string s) w := by kernel_rfl
theorem run_tok3 (k n a : Int) (s : ByteArray) (w : World) : (Instr.field 91 (.agg #[.int .i64 k, .string s, .int .i64 n, .int .i64 a]) 3).run Tryz.prog w = .ok (.int .i64 a) w := by kernel_rfl

/-- What a reader that is stuck panics with. -/
def stuckAt (a : Int) : Ending := .panicked [{ v := .iface 146 (.agg #[.int .i64 a]), recovered := false }]

theorem tokAgg_eq (t : TokR) : tokAgg t = .agg #[.int .i64 t.kind, .string t.s, .int .i64 t.n, .int .i64 t.at_] := rfl

set_option maxHeartbeats 2000000 in
set_option maxRecDepth 100000 in
theorem stop_any {W w : World} {R bk o n cap O k deep : Nat} {l : List TokR} (c : RdCtx W R bk o n cap O l) (hk : Keeps [] W w) (hr : RdAt w R bk o n cap O k deep) (h : k < n) :
    Calls Tryz.prog 131 #[.pointer (some ⟨R, 0, none⟩)] w fun e w' => e = stuckAt (tokAt l k).at_ ∧ Keeps [] w w' := by
  have HN := Lib.hid (now_any c hk hr h)
  rw [tokAgg_eq] at HN
  generalize tokAt l k = t at *
  have hfd := fun w => run_tok3 t.kind t.n t.at_ t.s w
  clear c hk hr
  go_enter Tryz.func131, Tryz.ntmps131
  go_wp2_with (go_at_call 107; refine HN.out.mono ?_; rintro e w2 ⟨rfl, hk2⟩)
  exact ⟨rfl, rfl, hk2⟩

theorem RdAt.keep {w w' : World} {R bk o n cap O k deep : Nat} (h : RdAt w R bk o n cap O k deep) (k' : Keeps [] w w') : RdAt w' R bk o n cap O k deep := k'.heap h (by simp)

set_option maxHeartbeats 2000000 in
set_option maxRecDepth 100000 in
/-- Deeper, and not too deep. -/
theorem down_fit {W w : World} {R bk o n cap O k deep : Nat} {l : List TokR} (_c : RdCtx W R bk o n cap O l) (hr : RdAt w R bk o n cap O k deep) (hd : deep + 1 ≤ 200) :
    Calls Tryz.prog 108 #[.pointer (some ⟨R, 0, none⟩)] w fun e w' => e = .returned (.tuple #[]) ∧ RdAt w' R bk o n cap O k (deep + 1) ∧ Keeps [R] w w' := by
  have hk0 := Keeps.refl [R] w
  obtain ⟨r0, r1, r2, r3, z1, z2⟩ := rd_cells hr
  have HR := Lib.hid hr
  clear hr
  go_enter Tryz.func108, Tryz.ntmps108
  go_wp2_with fail
  go_returns
  exact ⟨rfl, heap_set_self (o := 2) HR.out, hk0.setCell (.inl (by simp)) _⟩

set_option maxHeartbeats 2000000 in
set_option maxRecDepth 100000 in
/-- Too deep. -/
theorem down_over {W w : World} {R bk o n cap O k deep : Nat} {l : List TokR} (c : RdCtx W R bk o n cap O l) (hk : Keeps [] W w) (hr : RdAt w R bk o n cap O k deep) (h : k < n) (hd : 200 < deep + 1) (hd2 : deep ≤ 200) :
    Calls Tryz.prog 108 #[.pointer (some ⟨R, 0, none⟩)] w fun e w' => e = stuckAt (tokAt l k).at_ ∧ Keeps [R] w w' := by
  have hk0 := Keeps.refl [R] w
  obtain ⟨r0, r1, r2, r3, z1, z2⟩ := rd_cells hr
  have hr2 : RdAt (w.setCell ⟨R, 2, none⟩ (.int .i64 ((deep : Int) + 1))) R bk o n cap O k (deep + 1) := heap_set_self (o := 2) hr
  have hR : W.heap.size ≤ R := c.new
  have HS := Lib.hid (stop_any c (hk.setCell (.inr hR) _) hr2 h)
  simp only [stuckAt] at HS
  generalize (tokAt l k).at_ = ta at *
  clear c hk hr hr2
  go_enter Tryz.func108, Tryz.ntmps108
  go_wp2_with (go_at_call 131; refine HS.out.mono ?_; rintro e w2 ⟨rfl, hk2⟩)
  exact ⟨rfl, rfl, (hk0.setCell (.inl (by simp)) _).then hk2⟩

set_option maxHeartbeats 2000000 in
set_option maxRecDepth 100000 in
/-- A sign that stands there is taken. -/
theorem sign_any {W w : World} {R bk o n cap O k deep : Nat} {l : List TokR} (s : ByteArray) (c : RdCtx W R bk o n cap O l) (hk : Keeps [] W w) (hr : RdAt w R bk o n cap O k deep) (h : k < n) :
    Calls Tryz.prog 130 #[.pointer (some ⟨R, 0, none⟩), .string s] w fun e w' => e = .returned (.bool (isSignT (tokAt l k) s)) ∧ RdAt w' R bk o n cap O (if isSignT (tokAt l k) s then k + 1 else k) deep ∧ Keeps [R] w w' := by
  have HNow := fun w' (hk' : Keeps [] w w') => Lib.hid (now_any c (hk.then hk') (hr.keep hk') h)
  rw [tokAgg_eq] at HNow
  have HR := Lib.hid hr
  have HI : isSignT (tokAt l k) s = (decide ((tokAt l k).kind = 4) && decide ((tokAt l k).s.toList = s.toList)) := by simp only [isSignT, ByteArray.toList_eq]
  have h63 : k ≤ 4097 := by have := c.few; omega
  generalize isSignT (tokAt l k) s = bb at *
  generalize tokAt l k = t at *
  obtain ⟨tk, ts, tn, ta⟩ := t
  simp only at HNow HI
  have hf0 := fun k w => run_tok0 k tn ta ts w
  have hf1 := fun k w => run_tok1 k tn ta ts w
  clear c hk hr
  by_cases h4 : tk = 4
  · subst h4
    by_cases hs : ts.toList = s.toList
    · have hb : bb = true := by rw [HI]; simp [hs]
      subst hb
      have d1 : (ts.toList == s.toList) = true := by rw [hs]; simp
      clear HI hs
      go_enter Tryz.func130, Tryz.ntmps130
      go_wp2_with (go_at_call 107; first
        | (refine (HNow _ hk2).out.mono ?_; rintro e w3 ⟨rfl, hk3⟩; have hk4 := hk2.then hk3; have hR3 := HR.out.keep hk4; have HR3 := Lib.hid hR3; have cc := rd_cells hR3; clear hR3; obtain ⟨_, q1, _, _, zz1, _⟩ := cc)
        | (refine (HNow _ (Keeps.refl [] w)).out.mono ?_; rintro e w2 ⟨rfl, hk2⟩))
      go_returns
      exact ⟨rfl, heap_set_self (o := 1) HR3.out, (hk4.mono (by simp)).setCell (.inl (by simp)) _⟩
    · have hb : bb = false := by rw [HI]; simp [hs]
      subst hb
      have d1 : (ts.toList == s.toList) = false := by rw [beq_eq_false_iff_ne]; exact hs
      clear HI hs
      go_enter Tryz.func130, Tryz.ntmps130
      go_wp2_with (go_at_call 107; first
        | (refine (HNow _ hk2).out.mono ?_; rintro e w3 ⟨rfl, hk3⟩; have hk4 := hk2.then hk3)
        | (refine (HNow _ (Keeps.refl [] w)).out.mono ?_; rintro e w2 ⟨rfl, hk2⟩))
      go_returns
      exact ⟨rfl, HR.out.keep hk4, hk4.mono (by simp)⟩
  · have hb : bb = false := by rw [HI]; simp [h4]
    subst hb
    have d1 : (tk != 4) = true := by rw [bne_iff_ne]; exact h4
    clear HI h4
    go_enter Tryz.func130, Tryz.ntmps130
    go_wp2_with (go_at_call 107; refine (HNow _ (Keeps.refl [] w)).out.mono ?_; rintro e w2 ⟨rfl, hk2⟩)
    go_returns
    exact ⟨rfl, HR.out.keep hk2, hk2.mono (by simp)⟩

end Go.Proofs.YtefcmijobbgpbaaGreatDoor
