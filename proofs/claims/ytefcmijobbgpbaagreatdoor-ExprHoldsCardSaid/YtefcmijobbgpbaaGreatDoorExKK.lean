/- How a tree is reckoned. Conditions: those of each theorem. -/
import Derived.Test.YtefcmijobbgpbaaGreatDoorExJJ
import Derived.Test.YtefcmijobbgpbaaGreatDoorExL
namespace Go.Proofs.YtefcmijobbgpbaaGreatDoor
open Go.RowKit

theorem run_val2 (n : Int) (s : ByteArray) (b : Bool) (w : World) : (Instr.field 81 (.agg #[.int .i64 n, .string s, .bool b]) 2).run Tryz.prog w = .ok (.bool b) w := by kernel_rfl

theorem valAgg_eq (v : ValR) : valAgg v = .agg #[.int .i64 v.n, .string v.s, .bool v.ok] := rfl

/-- The closure that tells fields. -/
def getFn (EB LB NB : Nat) : Value := .func (.func 34) #[] #[.pointer (some ⟨EB, 0, none⟩), .pointer (some ⟨LB, 0, none⟩), .pointer (some ⟨NB, 0, none⟩)]

def RecIH (O EB LB NB : Nat) (ev : EvR) (names : List ByteArray) (last : List EvR) (vl vn : Value) (x : Ex) : Prop := ∀ (B b : Nat) (w : World), OpsAt w O → TreeAt w O B x b → GetIn w EB LB NB ev names last vl vn →
  Calls Tryz.prog 33 #[.pointer (some ⟨b, 0, none⟩), .func (.func 34) #[] #[.pointer (some ⟨EB, 0, none⟩), .pointer (some ⟨LB, 0, none⟩), .pointer (some ⟨NB, 0, none⟩)]] w fun e w' => e = .returned (valAgg (x.val (getM ev names last))) ∧ Keeps [] w w'

set_option maxHeartbeats 4000000 in
set_option maxRecDepth 100000 in
theorem reckon_num (O B a EB LB NB : Nat) (p : PartR) (g : ByteArray → Int → ValR) (w : World) (h1 : p.kind = 1) (hT : TreeAt w O B (.leaf p) a) :
    Calls Tryz.prog 33 #[.pointer (some ⟨a, 0, none⟩), .func (.func 34) #[] #[.pointer (some ⟨EB, 0, none⟩), .pointer (some ⟨LB, 0, none⟩), .pointer (some ⟨NB, 0, none⟩)]] w fun e w' => e = .returned (valAgg ((Ex.leaf p).val g)) ∧ Keeps [] w w' := by
  have hk0 := Keeps.refl [] w
  have hk1 := hk0.alloc (.cells #[.int .i64 0, .string ⟨#[]⟩, .bool false] 81 (0, 0))
  obtain ⟨c0, c1, c2, c3, c4, c5, c6, c7⟩ := node_cells (hk1.heap hT.2.1 (by simp))
  obtain ⟨kd, n, s, st, f⟩ := p
  simp only at h1 c0 c1 c2 c3 c4
  subst h1
  clear hT
  go_enter Tryz.func33, Tryz.ntmps33
  go_wp2_with fail
  refine ret_row1 rfl w.heap.size _ _ _ _ rfl (heap_alloc_new w _) Tryz.underlying81 rfl (by kernel_rfl) rfl ?_
  exact ⟨rfl, hk0.alloc _⟩

set_option maxHeartbeats 4000000 in
set_option maxRecDepth 100000 in
theorem reckon_text (O B a EB LB NB : Nat) (p : PartR) (g : ByteArray → Int → ValR) (w : World) (h1 : p.kind = 2) (hT : TreeAt w O B (.leaf p) a) :
    Calls Tryz.prog 33 #[.pointer (some ⟨a, 0, none⟩), .func (.func 34) #[] #[.pointer (some ⟨EB, 0, none⟩), .pointer (some ⟨LB, 0, none⟩), .pointer (some ⟨NB, 0, none⟩)]] w fun e w' => e = .returned (valAgg ((Ex.leaf p).val g)) ∧ Keeps [] w w' := by
  have hk0 := Keeps.refl [] w
  have hk1 := hk0.alloc (.cells #[.int .i64 0, .string ⟨#[]⟩, .bool false] 81 (0, 0))
  obtain ⟨c0, c1, c2, c3, c4, c5, c6, c7⟩ := node_cells (hk1.heap hT.2.1 (by simp))
  obtain ⟨kd, n, s, st, f⟩ := p
  simp only at h1 c0 c1 c2 c3 c4
  subst h1
  clear hT
  go_enter Tryz.func33, Tryz.ntmps33
  go_wp2_with fail
  refine ret_row1 rfl w.heap.size _ _ _ _ rfl (heap_alloc_new w _) Tryz.underlying81 rfl (by kernel_rfl) rfl ?_
  exact ⟨rfl, hk0.alloc _⟩

set_option maxHeartbeats 4000000 in
set_option maxRecDepth 100000 in
theorem reckon_field (O B a EB LB NB : Nat) (ev : EvR) (names : List ByteArray) (last : List EvR) (vl vn : Value) (p : PartR) (w : World) (h1 : p.kind = 3) (hf0 : 0 ≤ p.field) (hf5 : p.field ≤ 5) (hst : p.stage.data.toList = [] ∨ 0 ≤ idxFrom p.stage names 0) (hT : TreeAt w O B (.leaf p) a) (hI : GetIn w EB LB NB ev names last vl vn) :
    Calls Tryz.prog 33 #[.pointer (some ⟨a, 0, none⟩), .func (.func 34) #[] #[.pointer (some ⟨EB, 0, none⟩), .pointer (some ⟨LB, 0, none⟩), .pointer (some ⟨NB, 0, none⟩)]] w fun e w' => e = .returned (valAgg ((Ex.leaf p).val (getM ev names last))) ∧ Keeps [] w w' := by
  have hk0 := Keeps.refl [] w
  have hk1 := hk0.alloc (.cells #[.int .i64 0, .string ⟨#[]⟩, .bool false] 81 (0, 0))
  have hb4 := heap_alloc_new w (.cells #[.int .i64 0, .string ⟨#[]⟩, .bool false] 81 (0, 0))
  obtain ⟨m, hm⟩ : ∃ m : Nat, p.field = (m : Int) := ⟨p.field.toNat, by omega⟩
  obtain ⟨x, hx⟩ : ∃ x, (Ex.leaf p).val (getM ev names last) = x := ⟨_, rfl⟩
  have hval : getM ev names last p.stage m = x := by rw [← hx, ← hm]; simp [Ex.val, h1]
  have HGet : Hid (∀ w', Keeps [] w w' → Calls Tryz.prog 34 #[.string p.stage, .int .i64 m, .pointer (some ⟨EB, 0, none⟩), .pointer (some ⟨LB, 0, none⟩), .pointer (some ⟨NB, 0, none⟩)] w' fun e w2 => e = .returned (valAgg x) ∧ Keeps [] w' w2) := by
    refine Lib.hid fun w' hk => ?_
    unfold getM at hval
    by_cases he : p.stage.data.toList = []
    · rw [if_pos he] at hval
      rw [← hval, show p.stage = ⟨#[]⟩ from ba_empty he]
      exact get_own EB LB NB ev names last vl vn m (by omega) w' (hI.keep hk)
    · rw [if_neg he] at hval
      rw [← hval]
      exact get_stage EB LB NB ev names last vl vn p.stage he (hst.resolve_left he) m (by omega) w' (hI.keep hk)
  rw [hx]
  obtain ⟨xn, xs, xb⟩ := x
  simp only [valAgg_eq] at HGet ⊢
  obtain ⟨c0, c1, c2, c3, c4, c5, c6, c7⟩ := node_cells (hk1.heap hT.2.1 (by simp))
  obtain ⟨kd, n, s, st, f⟩ := p
  simp only at h1 hm c0 c1 c2 c3 c4 HGet
  subst h1 hm
  clear hT hI hx hval hst hf0 hf5
  go_enter Tryz.func33, Tryz.ntmps33
  go_wp2_with fail
  have hd3 : ((w.alloc (.cells #[.int .i64 0, .string ⟨#[]⟩, .bool false] 81 (0, 0))).drew).cell? ⟨a, 3, none⟩ = some (.string st) := c3
  have hd4 : ((w.alloc (.cells #[.int .i64 0, .string ⟨#[]⟩, .bool false] 81 (0, 0))).drew).cell? ⟨a, 4, none⟩ = some (.int .i64 (m : Int)) := c4
  refine wp_region_chain (fun W' => W'.cell? ⟨a, 3, none⟩ = some (.string st) ∧ W'.cell? ⟨a, 4, none⟩ = some (.int .i64 (m : Int))) [11] [(0, 0), (1, 0), (2, 0), (3, 0), (4, 0), (5, 1), (6, 0), (7, 0), (8, 0), (9, 0), (10, 1), (11, 3), (12, 3)] (by kernel_rfl) (by kernel_rfl) (fun _ d _ _ _ h => by cases d <;> exact h) ⟨hd3, hd4⟩ ?_
  repeat (first
    | (refine wpC_pure (v := ?_) rfl (by rfl) ?_ ?_
       rotate_left 1
       · (intro w; go_simp; try with_reducible rfl)
       try simp only [Act.put, List.setIfInBounds_toArray, List.set_cons_zero, List.set_cons_succ, List.getElem_toArray, List.getElem_cons_succ, List.getElem_cons_zero])
    | (refine wpC_held (v := ?_) rfl (by rfl) ?_ ?_
       rotate_left 1
       · (rintro w ⟨hs0, hs1⟩; go_simp; try with_reducible rfl)
       try simp only [Act.put, List.setIfInBounds_toArray, List.set_cons_zero, List.set_cons_succ, List.getElem_toArray, List.getElem_cons_succ, List.getElem_cons_zero]))
  refine wpC_last rfl (by rfl) (fun K hK => ?_)
  go_simp
  refine (HGet.out _ hk1.drew).mono ?_
  rintro e w2 ⟨rfl, hk2⟩
  refine hK _ _ ?_
  clear hK K
  try simp only [Act.put, List.setIfInBounds_toArray, List.set_cons_zero, List.set_cons_succ, List.getElem_toArray, List.getElem_cons_succ, List.getElem_cons_zero]
  refine wpC_last rfl (by rfl) (fun K hK => ?_)
  have hb5 := hk2.heap (drew_block hb4) (by simp)
  refine wp_store_row _ _ _ (by rfl) w.heap.size _ (by rfl) (by rfl) 81 _ hb5 (by kernel_rfl) (by rfl) (by simp [Value.oneCell']) ?_
  refine hK _ _ ?_
  clear hK K
  try simp only [Act.put, List.getElem_toArray, List.getElem_cons_succ, List.getElem_cons_zero]
  refine wpC_nil ?_
  go_wp2_with fail
  refine ret_row1 rfl w.heap.size _ _ _ _ rfl (setRow_heap _ _ _ _ _ _ hb5) Tryz.underlying81 rfl (by kernel_rfl) rfl ?_
  exact ⟨rfl, (hk1.drew.trans hk2 (by simp)).setRow (.inr (Nat.le_refl _)) _⟩

set_option maxHeartbeats 4000000 in
set_option maxRecDepth 100000 in
theorem reckon_neg (O B a EB LB NB : Nat) (ev : EvR) (names : List ByteArray) (last : List EvR) (vl vn : Value) (p : PartR) (x : Ex) (w : World) (hO : OpsAt w O) (IH : RecIH O EB LB NB ev names last vl vn x) (hT : TreeAt w O B (.neg p x) a) (hI : GetIn w EB LB NB ev names last vl vn) :
    Calls Tryz.prog 33 #[.pointer (some ⟨a, 0, none⟩), .func (.func 34) #[] #[.pointer (some ⟨EB, 0, none⟩), .pointer (some ⟨LB, 0, none⟩), .pointer (some ⟨NB, 0, none⟩)]] w fun e w' => e = .returned (valAgg ((Ex.neg p x).val (getM ev names last))) ∧ Keeps [] w w' := by
  have hk0 := Keeps.refl [] w
  have hk1 := hk0.alloc (.cells #[.int .i64 0, .string ⟨#[]⟩, .bool false] 81 (0, 0))
  have hb4 := heap_alloc_new w (.cells #[.int .i64 0, .string ⟨#[]⟩, .bool false] 81 (0, 0))
  obtain ⟨_, h13, lb, c, b, hn, _, hc1, hcm, hlb, hTx⟩ := hT
  have HX := Lib.hid (IH B b _ (hO.keep hk1 (by simp)) (hTx.keep hk1) (hI.keep hk1))
  obtain ⟨y, hy⟩ : ∃ y, x.val (getM ev names last) = y := ⟨_, rfl⟩
  have hv : (Ex.neg p x).val (getM ev names last) = .truth (!y.ok) := by rw [← hy]; rfl
  rw [hv]
  rw [hy] at HX
  obtain ⟨yn, ys, yb⟩ := y
  simp only [valAgg_eq, ValR.truth] at HX ⊢
  have hf2 := run_val2
  obtain ⟨c0, c1, c2, c3, c4, c5, c6, c7⟩ := node_cells (hk1.heap hn (by simp))
  have hlb1 := hk1.cell hlb (by simp)
  obtain ⟨kd, n, s, st, f⟩ := p
  simp only at h13 c0 c1 c2 c3 c4
  subst h13
  clear hTx hI hy hv hn IH hO hlb
  go_enter Tryz.func33, Tryz.ntmps33
  go_wp2_with (go_at_call 33; refine HX.out.mono ?_; rintro e w2 ⟨rfl, hk2⟩; have hb5 := hk2.heap hb4 (by simp); obtain ⟨v0, v1, v2, y0, y1, y2⟩ := val_block hb5)
  refine ret_row1 rfl w.heap.size _ _ _ _ rfl (val_set3 hb5 _ _ _) Tryz.underlying81 rfl (by kernel_rfl) rfl ?_
  exact ⟨rfl, (((hk1.then hk2).setCell (.inr (Nat.le_refl _)) _).setCell (.inr (Nat.le_refl _)) _).setCell (.inr (Nat.le_refl _)) _⟩

theorem callOp1 (args : Array Value) (w : World) : (callFunc 60 args).run Tryz.prog w = .ok (.enter 60 args) w := by kernel_rfl
theorem callOp2 (args : Array Value) (w : World) : (callFunc 61 args).run Tryz.prog w = .ok (.enter 61 args) w := by kernel_rfl
theorem callOp3 (args : Array Value) (w : World) : (callFunc 62 args).run Tryz.prog w = .ok (.enter 62 args) w := by kernel_rfl
theorem callOp4 (args : Array Value) (w : World) : (callFunc 63 args).run Tryz.prog w = .ok (.enter 63 args) w := by kernel_rfl
theorem callOp5 (args : Array Value) (w : World) : (callFunc 64 args).run Tryz.prog w = .ok (.enter 64 args) w := by kernel_rfl
theorem callOp6 (args : Array Value) (w : World) : (callFunc 65 args).run Tryz.prog w = .ok (.enter 65 args) w := by kernel_rfl
theorem callOp7 (args : Array Value) (w : World) : (callFunc 66 args).run Tryz.prog w = .ok (.enter 66 args) w := by kernel_rfl
theorem callOp8 (args : Array Value) (w : World) : (callFunc 67 args).run Tryz.prog w = .ok (.enter 67 args) w := by kernel_rfl
theorem callOp9 (args : Array Value) (w : World) : (callFunc 68 args).run Tryz.prog w = .ok (.enter 68 args) w := by kernel_rfl
theorem callOp_any (m : Nat) (hm : m < 9) (args : Array Value) (w : World) : (callFunc (opFn m) args).run Tryz.prog w = .ok (.enter (opFn m) args) w := by
  have hc : m = 0 ∨ m = 1 ∨ m = 2 ∨ m = 3 ∨ m = 4 ∨ m = 5 ∨ m = 6 ∨ m = 7 ∨ m = 8 := by omega
  rcases hc with rfl | rfl | rfl | rfl | rfl | rfl | rfl | rfl | rfl
  · exact callOp1 args w
  · exact callOp2 args w
  · exact callOp3 args w
  · exact callOp4 args w
  · exact callOp5 args w
  · exact callOp6 args w
  · exact callOp7 args w
  · exact callOp8 args w
  · exact callOp9 args w

set_option maxHeartbeats 8000000 in
set_option maxRecDepth 100000 in
theorem reckon_bin (O B a EB LB NB : Nat) (ev : EvR) (names : List ByteArray) (last : List EvR) (vl vn : Value) (p : PartR) (x z : Ex) (w : World) (hO : OpsAt w O) (IHx : RecIH O EB LB NB ev names last vl vn x) (IHz : RecIH O EB LB NB ev names last vl vn z) (hT : TreeAt w O B (.bin p x z) a) (hI : GetIn w EB LB NB ev names last vl vn) :
    Calls Tryz.prog 33 #[.pointer (some ⟨a, 0, none⟩), .func (.func 34) #[] #[.pointer (some ⟨EB, 0, none⟩), .pointer (some ⟨LB, 0, none⟩), .pointer (some ⟨NB, 0, none⟩)]] w fun e w' => e = .returned (valAgg ((Ex.bin p x z).val (getM ev names last))) ∧ Keeps [] w w' := by
  have hk0 := Keeps.refl [] w
  have hk1 := (hk0.alloc (.cells #[.int .i64 0, .string ⟨#[]⟩, .bool false] 81 (0, 0))).drew
  have hb4 := drew_block (heap_alloc_new w (.cells #[.int .i64 0, .string ⟨#[]⟩, .bool false] 81 (0, 0)))
  obtain ⟨_, h4, lb, c, b, d, hn, _, hc2, hcm, hl0, hl1, hTx, hTz⟩ := hT
  have HX := Lib.hid fun w' (hk : Keeps [] w w') => IHx B b w' (hO.keep hk (by simp)) (hTx.keep hk) (hI.keep hk)
  have HZ := Lib.hid fun w' (hk : Keeps [] w w') => IHz B d w' (hO.keep hk (by simp)) (hTz.keep hk) (hI.keep hk)
  obtain ⟨m, hm⟩ : ∃ m, m = opN p.kind := ⟨_, rfl⟩
  have hm9 : m < 9 := by rw [hm]; unfold opN; omega
  have hmk : p.kind = 4 + (m : Int) := by rw [hm]; unfold opN; omega
  obtain ⟨o0, o1, o2, o3, o4, o5, o6⟩ := ops_cells hO m hm9
  obtain ⟨y, hy⟩ : ∃ y, x.val (getM ev names last) = y := ⟨_, rfl⟩
  obtain ⟨u, hu⟩ : ∃ u, z.val (getM ev names last) = u := ⟨_, rfl⟩
  have hv : (Ex.bin p x z).val (getM ev names last) = twoM (4 + (m : Int)) y u := by rw [← hy, ← hu, ← hmk]; rfl
  have HOp := Lib.hid fun w' => opFn_any m hm9 y u w'
  have hcf := callOp_any m hm9
  rw [hv]
  rw [hy] at HX
  rw [hu] at HZ
  obtain ⟨r, hr⟩ : ∃ r, twoM (4 + (m : Int)) y u = r := ⟨_, rfl⟩
  rw [hr] at HOp ⊢
  generalize opFn m = fq at *
  obtain ⟨yn, ys, yb⟩ := y
  obtain ⟨un, us, ub⟩ := u
  obtain ⟨rn, rs, rb⟩ := r
  simp only [valAgg_eq] at HX HZ HOp ⊢
  rw [← hm] at hn
  obtain ⟨c0, _, _, _, _, c5, c6, _⟩ := node_cells ((hk0.alloc (.cells #[.int .i64 0, .string ⟨#[]⟩, .bool false] 81 (0, 0))).heap hn (by simp))
  obtain ⟨_, _, _, _, _, q5, q6, _⟩ := node_cells hn
  have e1 : (p.kind == 1) = false := by rw [beq_eq_false_iff_ne]; omega
  have e2 : (p.kind == 2) = false := by rw [beq_eq_false_iff_ne]; omega
  have e3 : (p.kind == 3) = false := by rw [beq_eq_false_iff_ne]; omega
  have HS := Lib.hid fun w' (hk : Keeps [] w w') => And.intro (hk.cell q5 (by simp)) (And.intro (hk.cell o6 (by simp)) (And.intro (hk.cell q6 (by simp)) (And.intro (hk.cell hl0 (by simp)) (hk.cell hl1 (by simp)))))
  clear hTx hTz hI hy hu hv hn IHx IHz hO hl0 hl1 hm hmk h4 hr o0 o1 o2 o3 o4 o5 o6 q5 q6
  go_enter Tryz.func33, Tryz.ntmps33
  go_wp2_with fail
  refine wp_region_chain (fun W' => W'.cell? ⟨a, 5, none⟩ = some (.pointer (some ⟨O, m * 7, none⟩)) ∧ W'.cell? ⟨O, m * 7 + 6, none⟩ = some (.func (.func fq) #[] #[]) ∧ W'.cell? ⟨a, 6, none⟩ = some (.slice (some ⟨lb, 0, none⟩) 2 c) ∧ W'.cell? ⟨lb, 0, none⟩ = some (.pointer (some ⟨b, 0, none⟩)) ∧ W'.cell? ⟨lb, 1, none⟩ = some (.pointer (some ⟨d, 0, none⟩))) [23] [(0, 0), (1, 0), (2, 0), (3, 1), (4, 0), (5, 0), (6, 1), (7, 0), (8, 0), (9, 0), (10, 1), (11, 0), (12, 1), (13, 0), (15, 0), (16, 0), (17, 0), (18, 1), (19, 0), (20, 1), (21, 0), (14, 2), (22, 2), (23, 3), (24, 3)] (by kernel_rfl) (by kernel_rfl) (fun _ d _ _ _ h => by cases d <;> exact h) (HS.out _ hk1) ?_
  repeat (first
    | (refine wpC_pure (v := ?_) rfl (by rfl) ?_ ?_
       rotate_left 1
       · (intro w; go_simp; try with_reducible rfl)
       try simp only [Act.put, List.setIfInBounds_toArray, List.set_cons_zero, List.set_cons_succ, List.getElem_toArray, List.getElem_cons_succ, List.getElem_cons_zero])
    | (refine wpC_held (v := ?_) rfl (by rfl) ?_ ?_
       rotate_left 1
       · (rintro w ⟨hs0, hs1, hs2, hs3, hs4⟩; go_simp; try with_reducible rfl)
       try simp only [Act.put, List.setIfInBounds_toArray, List.set_cons_zero, List.set_cons_succ, List.getElem_toArray, List.getElem_cons_succ, List.getElem_cons_zero]))
  refine wpC_step rfl (by rfl) (fun K hK => ?_)
  go_simp
  refine (HX.out _ hk1).mono ?_
  rintro e w2 ⟨rfl, hk2⟩
  have hk3 := hk1.then hk2
  refine hK _ _ (HS.out _ hk3) ?_
  clear hK K
  try simp only [Act.put, List.setIfInBounds_toArray, List.set_cons_zero, List.set_cons_succ, List.getElem_toArray, List.getElem_cons_succ, List.getElem_cons_zero]
  refine wpC_step rfl (by rfl) (fun K hK => ?_)
  go_simp
  refine (HZ.out _ hk3).mono ?_
  rintro e w4 ⟨rfl, hk4⟩
  have hk5 := hk3.then hk4
  refine hK _ _ (HS.out _ hk5) ?_
  clear hK K
  try simp only [Act.put, List.setIfInBounds_toArray, List.set_cons_zero, List.set_cons_succ, List.getElem_toArray, List.getElem_cons_succ, List.getElem_cons_zero]
  refine wpC_last rfl (by rfl) (fun K hK => ?_)
  go_simp
  refine (HOp.out _).mono ?_
  rintro e w6 ⟨rfl, hk6⟩
  have hk7 := hk5.then hk6
  refine hK _ _ ?_
  clear hK K
  try simp only [Act.put, List.setIfInBounds_toArray, List.set_cons_zero, List.set_cons_succ, List.getElem_toArray, List.getElem_cons_succ, List.getElem_cons_zero]
  have hb5 := hk6.heap (hk4.heap (hk2.heap hb4 (by simp)) (by simp)) (by simp)
  refine wpC_last rfl (by rfl) (fun K hK => ?_)
  refine wp_store_row _ _ _ (by rfl) w.heap.size _ (by rfl) (by rfl) 81 _ hb5 (by kernel_rfl) (by rfl) (by simp [Value.oneCell']) ?_
  refine hK _ _ ?_
  clear hK K
  try simp only [Act.put, List.getElem_toArray, List.getElem_cons_succ, List.getElem_cons_zero]
  refine wpC_nil ?_
  go_wp2_with fail
  refine ret_row1 rfl w.heap.size _ _ _ _ rfl (setRow_heap _ _ _ _ _ _ hb5) Tryz.underlying81 rfl (by kernel_rfl) rfl ?_
  exact ⟨rfl, hk7.setRow (.inr (Nat.le_refl _)) _⟩

/-- The stages that a tree asks for are there. -/
def HasAll (names : List ByteArray) (t : Ex) : Prop := ∀ p ∈ t.parts, p.kind = 3 → p.stage.data.toList = [] ∨ 0 ≤ idxFrom p.stage names 0

theorem reckon_any (O EB LB NB : Nat) (ev : EvR) (names : List ByteArray) (last : List EvR) (vl vn : Value) : ∀ (x : Ex), x.good → HasAll names x → RecIH O EB LB NB ev names last vl vn x
  | .leaf p, hg, hh, B, b, w, _, hT, hI => by
    rcases hT.2.2 with h | h | h
    · exact reckon_num O B b EB LB NB p _ w h hT
    · exact reckon_text O B b EB LB NB p _ w h hT
    · obtain ⟨h0, h5, _⟩ := isM_field (Ex.good_leaf hg) h
      exact reckon_field O B b EB LB NB ev names last vl vn p w h h0 h5 (hh p (by simp [Ex.parts]) h) hT hI
  | .neg p x, hg, hh, B, b, w, hO, hT, hI =>
    reckon_neg O B b EB LB NB ev names last vl vn p x w hO (reckon_any O EB LB NB ev names last vl vn x (Ex.good_neg hg).2 (fun q hq => hh q (by simp [Ex.parts, hq]))) hT hI
  | .bin p x z, hg, hh, B, b, w, hO, hT, hI =>
    reckon_bin O B b EB LB NB ev names last vl vn p x z w hO (reckon_any O EB LB NB ev names last vl vn x (Ex.good_bin hg).2.1 (fun q hq => hh q (by simp [Ex.parts, hq]))) (reckon_any O EB LB NB ev names last vl vn z (Ex.good_bin hg).2.2 (fun q hq => hh q (by simp [Ex.parts, hq]))) hT hI

end Go.Proofs.YtefcmijobbgpbaaGreatDoor
