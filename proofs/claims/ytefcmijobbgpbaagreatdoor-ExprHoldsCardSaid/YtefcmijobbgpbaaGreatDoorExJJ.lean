/- A field, by the stages' events: the closure of Holds. Conditions: those of each theorem. -/
import Derived.Test.YtefcmijobbgpbaaGreatDoorExII
namespace Go.Proofs.YtefcmijobbgpbaaGreatDoor
open Go.RowKit

theorem ev_block {w : World} {B : Nat} {e : EvR} {t : TypeId} (h : w.heap[B]? = some (.cells (evRow e) t)) :
    w.cell? ⟨B, 0, none⟩ = some (.string e.key) ∧ w.cell? ⟨B, 1, none⟩ = some (.string e.typ) ∧ w.cell? ⟨B, 2, none⟩ = some (.int .i64 e.n0) ∧ w.cell? ⟨B, 3, none⟩ = some (.int .i64 e.n1) ∧ w.cell? ⟨B, 4, none⟩ = some (.int .i64 e.n2) ∧ w.cell? ⟨B, 5, none⟩ = some (.int .i64 e.n3) ∧ w.cell? ⟨B, 6, none⟩ = some (.string e.text) := by
  simp only [World.cell?, h, evRow]
  exact ⟨rfl, rfl, rfl, rfl, rfl, rfl, rfl⟩

theorem val_set3 {w : World} {B : Nat} {a b c : Value} {t : TypeId} (h : w.heap[B]? = some (.cells #[a, b, c] t)) (p q r : Value) :
    (((w.setCell ⟨B, 0, none⟩ p).setCell ⟨B, 1, none⟩ q).setCell ⟨B, 2, none⟩ r).heap[B]? = some (.cells #[p, q, r] t) := by
  have h1 := heap_set_self (o := 0) (v := p) h
  have h2 := heap_set_self (o := 1) (v := q) h1
  have h3 := heap_set_self (o := 2) (v := r) h2
  exact h3

/-- What is laid for the closure: the event at hand, the stages' events, their names. -/
structure GetIn (w : World) (EB LB NB : Nat) (e : EvR) (names : List ByteArray) (last : List EvR) (vl vn : Value) : Prop where
  ev : w.heap[EB]? = some (.cells (evRow e) 37 (0, 0))
  cl : w.cell? ⟨LB, 0, none⟩ = some vl
  cn : w.cell? ⟨NB, 0, none⟩ = some vn
  al : ArgEv w vl last
  an : ArgStr w vn names
  same : names.length = last.length

theorem GetIn.keep {w w' : World} {EB LB NB : Nat} {e : EvR} {names : List ByteArray} {last : List EvR} {vl vn : Value} (h : GetIn w EB LB NB e names last vl vn) (k : Keeps [] w w') : GetIn w' EB LB NB e names last vl vn :=
  ⟨k.heap h.ev (by simp), k.cell h.cl (by simp), k.cell h.cn (by simp), h.al.keep k, h.an.keep k, h.same⟩

set_option maxHeartbeats 4000000 in
set_option maxRecDepth 100000 in
/-- Of the event at hand. -/
theorem get_own (EB LB NB : Nat) (ev : EvR) (names : List ByteArray) (last : List EvR) (vl vn : Value) (m : Nat) (hm : m ≤ 5) (w : World) (h : GetIn w EB LB NB ev names last vl vn) :
    Calls Tryz.prog 34 #[.string ⟨#[]⟩, .int .i64 m, .pointer (some ⟨EB, 0, none⟩), .pointer (some ⟨LB, 0, none⟩), .pointer (some ⟨NB, 0, none⟩)] w fun e w' => e = .returned (valAgg (evVal ev m)) ∧ Keeps [] w w' := by
  have hk0 := Keeps.refl [] w
  have hk1 := hk0.alloc (.cells #[.int .i64 0, .string ⟨#[]⟩, .bool false] 81 (0, 0))
  obtain ⟨c0, c1, c2, c3, c4, c5, c6⟩ := ev_block (h.keep hk1).ev
  have hcase : m = 4 ∨ m = 5 ∨ m = 0 ∨ m = 1 ∨ m = 2 ∨ m = 3 := by omega
  obtain ⟨k, ty, a0, a1, a2, a3, tx⟩ := ev
  simp only at c0 c1 c2 c3 c4 c5 c6
  clear h hm
  go_enter Tryz.func34, Tryz.ntmps34
  rcases hcase with rfl | rfl | rfl | rfl | rfl | rfl
  all_goals go_wp2_with fail
  all_goals refine ret_row1 rfl w.heap.size _ _ _ _ rfl (alloc_old (heap_alloc_new w _) _) Tryz.underlying81 rfl (by kernel_rfl) rfl ?_
  all_goals exact ⟨rfl, (hk0.alloc _).alloc _⟩

set_option maxHeartbeats 8000000 in
set_option maxRecDepth 100000 in
/-- Of a stage's event. -/
theorem get_stage (EB LB NB : Nat) (ev : EvR) (names : List ByteArray) (last : List EvR) (vl vn : Value) (s : ByteArray) (hs : ¬ s.data.toList = []) (hi : 0 ≤ idxFrom s names 0) (m : Nat) (hm : m ≤ 5) (w : World) (h : GetIn w EB LB NB ev names last vl vn) :
    Calls Tryz.prog 34 #[.string s, .int .i64 m, .pointer (some ⟨EB, 0, none⟩), .pointer (some ⟨LB, 0, none⟩), .pointer (some ⟨NB, 0, none⟩)] w fun e w' => e = .returned (valAgg (evVal (last.getD (idxFrom s names 0).toNat default) m)) ∧ Keeps [] w w' := by
  have hk0 := Keeps.refl [] w
  have hk1 := hk0.alloc (.cells #[.int .i64 0, .string ⟨#[]⟩, .bool false] 81 (0, 0))
  obtain ⟨c0, c1, c2, c3, c4, c5, c6⟩ := ev_block (h.keep hk1).ev
  have hge := idxFrom_ge s names 0
  obtain ⟨j, hj⟩ : ∃ j : Nat, idxFrom s names 0 = (j : Int) := ⟨(idxFrom s names 0).toNat, by omega⟩
  have hjl : j < last.length := by have := h.same; omega
  obtain ⟨x, hx⟩ : ∃ x, last[j]? = some x := ⟨last[j], List.getElem?_eq_getElem hjl⟩
  have hD : last.getD (idxFrom s names 0).toNat default = x := by
    rw [hj, Int.toNat_natCast, List.getD_eq_getElem?_getD, hx]
    rfl
  rw [hD]
  have hcl := (h.keep hk1).cl
  have hcn := (h.keep hk1).cn
  have HIX := fun w han => Lib.hid (index_any names vn _ s rfl w han)
  rw [hj] at HIX
  have HAN := Lib.hid h.an
  obtain ⟨aon, capn, rfl, _, _⟩ := h.an
  obtain ⟨aol, capl, rfl, _, h2⟩ := h.al
  obtain ⟨bk, o, rfl, hsl, hc1, hc2⟩ := h2 (by intro e; rw [e] at hx; cases hx)
  obtain ⟨x0, x1, x2, x3, x4, x5, x6⟩ := hsl j x hx
  have hne : s.toList.isEmpty = false := by rw [ByteArray.toList_eq]; cases h : s.data.toList with
    | nil => exact absurd h hs
    | cons _ _ => rfl
  obtain ⟨n, hn⟩ : ∃ n, last.length = n := ⟨_, rfl⟩
  rw [h.same, hn] at HIX
  rw [h.same, hn] at hcn
  rw [hn] at hcl
  have HAN2 : Hid (ArgStr w (.slice aon n capn) names) := by have := HAN.out; rw [h.same, hn] at this; exact Lib.hid this
  have hjn : (j : Int) < (n : Int) := by omega
  have hj0 : (0 : Int) ≤ (j : Int) := by omega
  have hcase : m = 4 ∨ m = 5 ∨ m = 0 ∨ m = 1 ∨ m = 2 ∨ m = 3 := by omega
  have HX := Lib.hid (And.intro x0 (And.intro x1 (And.intro x2 (And.intro x3 (And.intro x4 (And.intro x5 x6))))))
  have hEw := heap_lt h.ev
  clear h hs hi hm hge hj hjl hx hD h2 hsl hc1 hc2 hn HAN x0 x1 x2 x3 x4 x5 x6
  obtain ⟨k, ty, a0, a1, a2, a3, tx⟩ := ev
  obtain ⟨k', ty', b0, b1, b2, b3, tx'⟩ := x
  simp only at c0 c1 c2 c3 c4 c5 c6 HX
  go_enter Tryz.func34, Tryz.ntmps34
  go_wp2_with fail
  have hT8 := heap_alloc2_new w (.cells #[.int .i64 0, .string ⟨#[]⟩, .bool false] 81 (0, 0)) (.cells #[.string k, .string ty, .int .i64 a0, .int .i64 a1, .int .i64 a2, .int .i64 a3, .string tx] 37 (0, 0))
  have hT7 := alloc_old (heap_alloc_new w (.cells #[.int .i64 0, .string ⟨#[]⟩, .bool false] 81 (0, 0))) (.cells #[.string k, .string ty, .int .i64 a0, .int .i64 a1, .int .i64 a2, .int .i64 a3, .string tx] 37 (0, 0))
  have hk2 := hk1.alloc (.cells #[.string k, .string ty, .int .i64 a0, .int .i64 a1, .int .i64 a2, .int .i64 a3, .string tx] 37 (0, 0))
  have hkr := ((Keeps.refl [] (w.alloc (.cells #[.int .i64 0, .string ⟨#[]⟩, .bool false] 81 (0, 0)))).alloc (.cells #[.string k, .string ty, .int .i64 a0, .int .i64 a1, .int .i64 a2, .int .i64 a3, .string tx] 37 (0, 0)))
  have hcl := hkr.cell hcl (by simp)
  have hcn := hkr.cell hcn (by simp)
  obtain ⟨W, hW⟩ : ∃ W, W = (w.alloc (.cells #[.int .i64 0, .string ⟨#[]⟩, .bool false] 81 (0, 0))).alloc (.cells #[.string k, .string ty, .int .i64 a0, .int .i64 a1, .int .i64 a2, .int .i64 a3, .string tx] 37 (0, 0)) := ⟨_, rfl⟩
  rw [← hW] at hT8 hT7 hk2 hcl hcn ⊢
  clear hW hkr c0 c1 c2 c3 c4 c5 c6
  obtain ⟨x0, x1, x2, x3, x4, x5, x6⟩ := HX.out
  have x0 := hk2.cell x0 (by simp)
  have x1 := hk2.cell x1 (by simp)
  have x2 := hk2.cell x2 (by simp)
  have x3 := hk2.cell x3 (by simp)
  have x4 := hk2.cell x4 (by simp)
  have x5 := hk2.cell x5 (by simp)
  have x6 := hk2.cell x6 (by simp)
  refine wp_region_chain (fun W' => W'.cell? ⟨LB, 0, none⟩ = some (.slice (some ⟨bk, o, none⟩) n capl) ∧ W'.cell? ⟨NB, 0, none⟩ = some (.slice aon n capn) ∧ W'.cell? ⟨bk, o + j * 7, none⟩ = some (.string k') ∧ W'.cell? ⟨bk, o + j * 7 + 1, none⟩ = some (.string ty') ∧ W'.cell? ⟨bk, o + j * 7 + 2, none⟩ = some (.int .i64 b0) ∧ W'.cell? ⟨bk, o + j * 7 + 3, none⟩ = some (.int .i64 b1) ∧ W'.cell? ⟨bk, o + j * 7 + 4, none⟩ = some (.int .i64 b2) ∧ W'.cell? ⟨bk, o + j * 7 + 5, none⟩ = some (.int .i64 b3) ∧ W'.cell? ⟨bk, o + j * 7 + 6, none⟩ = some (.string tx')) [6] [(0, 1), (1, 1), (2, 0), (3, 2), (4, 0), (5, 1), (6, 3)] (by kernel_rfl) (by kernel_rfl) (fun _ d _ _ _ h => by cases d <;> exact h) ⟨hcl, hcn, x0, x1, x2, x3, x4, x5, x6⟩ ?_
  repeat (first
    | (refine wpC_pure (v := ?_) rfl (by rfl) ?_ ?_
       rotate_left 1
       · (intro w; go_simp; try with_reducible rfl)
       try simp only [Act.put, List.setIfInBounds_toArray, List.set_cons_zero, List.set_cons_succ, List.getElem_toArray, List.getElem_cons_succ, List.getElem_cons_zero])
    | (refine wpC_held (v := ?_) rfl (by rfl) ?_ ?_
       rotate_left 1
       · (rintro w ⟨hs0, hs1, hs2, hs3, hs4, hs5, hs6, hs7, hs8⟩; go_simp; try with_reducible rfl)
       try simp only [Act.put, List.setIfInBounds_toArray, List.set_cons_zero, List.set_cons_succ, List.getElem_toArray, List.getElem_cons_succ, List.getElem_cons_zero]))
  refine wpC_step rfl (by rfl) (fun K hK => ?_)
  go_simp
  refine (HIX _ (HAN2.out.keep hk2.drew)).out.mono ?_
  rintro e w4 ⟨rfl, rfl⟩
  refine hK _ _ ⟨hcl, hcn, x0, x1, x2, x3, x4, x5, x6⟩ ?_
  clear hK K
  try simp only [Act.put, List.setIfInBounds_toArray, List.set_cons_zero, List.set_cons_succ, List.getElem_toArray, List.getElem_cons_succ, List.getElem_cons_zero]
  repeat (first
    | (refine wpC_pure (v := ?_) rfl (by rfl) ?_ ?_
       rotate_left 1
       · (intro w; go_simp; try with_reducible rfl)
       try simp only [Act.put, List.setIfInBounds_toArray, List.set_cons_zero, List.set_cons_succ, List.getElem_toArray, List.getElem_cons_succ, List.getElem_cons_zero])
    | (refine wpC_held (v := ?_) rfl (by rfl) ?_ ?_
       rotate_left 1
       · (rintro w ⟨hs0, hs1, hs2, hs3, hs4, hs5, hs6, hs7, hs8⟩; go_simp; try with_reducible rfl)
       try simp only [Act.put, List.setIfInBounds_toArray, List.set_cons_zero, List.set_cons_succ, List.getElem_toArray, List.getElem_cons_succ, List.getElem_cons_zero]))
  refine wpC_last rfl (by rfl) (fun K hK => ?_)
  refine wp_store_row _ _ _ (by rfl) (w.heap.size + 1) _ (by rfl) (by rfl) 37 _ (drew_block hT8) (by kernel_rfl) (by rfl) (by simp [Value.oneCell']) ?_
  refine hK _ _ ?_
  clear hK K
  try simp only [Act.put, List.getElem_toArray, List.getElem_cons_succ, List.getElem_cons_zero]
  refine wpC_nil ?_
  obtain ⟨V, hV⟩ : ∃ V, V = W.drew.setRow (w.heap.size + 1) #[.string k', .string ty', .int .i64 b0, .int .i64 b1, .int .i64 b2, .int .i64 b3, .string tx'] := ⟨_, rfl⟩
  have hV8 : V.heap[w.heap.size + 1]? = some (.cells (evRow ⟨k', ty', b0, b1, b2, b3, tx'⟩) 37 (0, 0)) := by rw [hV]; exact setRow_heap _ _ _ _ _ _ (drew_block hT8)
  have hV7 : V.heap[w.heap.size]? = some (.cells #[.int .i64 0, .string ⟨#[]⟩, .bool false] 81 (0, 0)) := by rw [hV, setRow_other _ _ _ _ (by omega)]; exact hT7
  have hkV : Keeps [] w V := by rw [hV]; exact hk2.drew.setRow (.inr (by omega)) _
  rw [← hV]
  obtain ⟨e0, e1, e2, e3, e4, e5, e6⟩ := ev_block hV8
  obtain ⟨v0, v1, v2, y0, y1, y2⟩ := val_block hV7
  clear hV hV8 hT8 hT7 hk2 hcl hcn x0 x1 x2 x3 x4 x5 x6 HX HIX HAN2
  rcases hcase with rfl | rfl | rfl | rfl | rfl | rfl
  all_goals go_wp2_with fail
  all_goals refine ret_row1 rfl w.heap.size _ _ _ _ rfl (val_set3 hV7 _ _ _) Tryz.underlying81 rfl (by kernel_rfl) rfl ?_
  all_goals exact ⟨rfl, ((hkV.setCell (.inr (Nat.le_refl _)) _).setCell (.inr (Nat.le_refl _)) _).setCell (.inr (Nat.le_refl _)) _⟩

end Go.Proofs.YtefcmijobbgpbaaGreatDoor
