/- The contract of one step on a net and on the reference's net: both answer alike. Conditions: those of the theorem. -/
import Derived.Test.YtgkdlpbnhjfkdaaRefH
import Derived.Test.YtgkdlpbnhjfkdaaNetP
namespace Go.Proofs.Ytgkdlpbnhjfkdaa
open Go.RowKit

/-- Both nets read alike. -/
def Both (W w : World) (a t r s : Nat) (X : List (Nat × Obj)) : Prop := ∃ to c, Short to ∧ Two W w a t r s to c to c X

theorem Both.of {W w : World} {a t r s : Nat} {to c B o X} (h : Two W w a t r s to c to c ((B, o) :: X)) (hs : Short to) : Both W w a t r s X := ⟨to, c, hs, h.unbox⟩

abbrev boxAct (k fr x i : Int) (b : ByteArray) : Array Value := #[.int .i64 k, .int .i64 fr, .int .i64 x, .int .i64 i, .string b]

structure ActV where
  k : Int
  fr : Int
  x : Int
  i : Int
  b : ByteArray

def ActV.cells (q : ActV) : Array Value := boxAct q.k q.fr q.x q.i q.b

def ActV.ok (q : ActV) : Prop := (-9223372036854775808 ≤ q.k ∧ q.k ≤ 9223372036854775807) ∧ (-9223372036854775808 ≤ q.fr ∧ q.fr ≤ 9223372036854775807) ∧ (-9223372036854775808 ≤ q.x ∧ q.x ≤ 9223372036854775807) ∧ (-9223372036854775808 ≤ q.i ∧ q.i ≤ 9223372036854775807) ∧ q.b.size ≤ maxLen

/-- What one step makes of a net. -/
def stepM (to : List (List Pk)) (c : List Int) (q : ActV) : List (List Pk) × List Int :=
  if q.k % 6 = 0 then ((sendM to c q.fr q.x q.b).1, (sendM to c q.fr q.x q.b).2.1)
  else if q.k % 6 = 1 then pullM to c q.x q.i 3
  else if q.k % 6 = 2 then pullM to c q.x q.i 1
  else if q.k % 6 = 3 then ((copyM to c q.x q.i).1, (copyM to c q.x q.i).2.1)
  else if q.k % 6 = 4 then ((clearM to c q.x).1, (clearM to c q.x).2.1)
  else (to, c)

theorem stepM_short {to : List (List Pk)} {c : List Int} {q : ActV} (h : Short to) : Short (stepM to c q).1 := by
  unfold stepM
  split
  · exact short_send h
  · split
    · exact short_pull h
    · split
      · exact short_pull h
      · split
        · exact short_copy h
        · split
          · exact short_clear h
          · exact h

set_option maxRecDepth 100000 in
set_option maxHeartbeats 2000000 in
theorem step_0 {W w : World} {a t r s : Nat} {to : List (List Pk)} {c : List Int} {X : List (Nat × Obj)} (k fr x i : Int) (b : ByteArray) (hk : k % 6 = 0) (hk1 : -9223372036854775808 ≤ k) (hk2 : k ≤ 9223372036854775807) (hb : b.size ≤ 9223372036854775807) (hs : Short to) (h : Two W w a t r s to c to c X) :
    Calls Try.prog 13 #[.pointer (some ⟨a, 0, none⟩), .pointer (some ⟨r, 0, none⟩), .agg (boxAct k fr x i b)] w fun e w' => e = .returned (.bool true) ∧ Two W w' a t r s ((sendM to c fr x b).1) ((sendM to c fr x b).2.1) ((sendM to c fr x b).1) ((sendM to c fr x b).2.1) X ∧ w.heap.size < w'.heap.size := by
  have Hs := Lib.hid hs
  have hlt := h.old.size
  clear hs
  go_enter Try.func13, Try.ntmps13
  go_wp2_with fail
  refine (among_any k 6 _ (by omega) (by omega) hk1 hk2).mono ?_
  rintro e w1 ⟨rfl, rfl⟩
  have hB := h.box (Obj.cells (boxAct k fr x i b) 40)
  rw [hk]
  have hH := hB.held
  have B1 := cell_of_row _ w.heap.size 1 _ _ _ hH
  have B2 := cell_of_row _ w.heap.size 2 _ _ _ hH
  have B3 := cell_of_row _ w.heap.size 3 _ _ _ hH
  have B4 := cell_of_row _ w.heap.size 4 _ _ _ hH
  simp only [List.getElem?_toArray, List.getElem?_cons_succ, List.getElem?_cons_zero] at B1 B2 B3 B4
  generalize hw1 : w.alloc (Obj.cells (boxAct k fr x i b) 40) = w1 at *
  generalize hBe : w.heap.size = B at *
  clear hH hw1 h hk hlt hk1 hk2
  have He := Lib.hid (two_send fr x b (hB.keep (Keeps.refl _ _).drew))
  have H0 := Lib.hid hB
  clear hB
  go_wp2_with fail
  refine wp_region_chain (fun w' => w'.cell? ⟨B, 1, none⟩ = some (.int .i64 fr) ∧ w'.cell? ⟨B, 2, none⟩ = some (.int .i64 x) ∧ w'.cell? ⟨B, 4, none⟩ = some (.string b)) [15] [(0, 0), (1, 0), (2, 1), (3, 0), (4, 1), (5, 0), (6, 1), (8, 0), (9, 0), (10, 1), (11, 0), (12, 1), (13, 0), (14, 1), (7, 2), (15, 3), (16, 0), (17, 0)] (by kernel_rfl) (by kernel_rfl) (fun _ d _ _ _ h => by cases d <;> exact h) (by go_simp) ?_
  repeat (first
    | (refine wpC_pure (v := ?_) rfl (by rfl) ?_ ?_
       rotate_left 1
       · (intro w; go_simp; try with_reducible rfl)
       try simp only [Act.put, List.setIfInBounds_toArray, List.set_cons_zero, List.set_cons_succ, List.getElem_toArray, List.getElem_cons_succ, List.getElem_cons_zero])
    | (refine wpC_held (v := ?_) rfl (by rfl) ?_ ?_
       rotate_left 1
       · (rintro w ⟨hs1, hs2, hs4⟩; go_simp; try with_reducible rfl)
       try simp only [Act.put, List.setIfInBounds_toArray, List.set_cons_zero, List.set_cons_succ, List.getElem_toArray, List.getElem_cons_succ, List.getElem_cons_zero]))
  refine wpC_step rfl (by rfl) (fun K hK => ?_)
  go_simp
  refine He.out.mono ?_
  rintro e w2 ⟨rfl, hB2⟩
  have hH := hB2.held
  refine hK _ _ ⟨cell_of_row _ B 1 _ _ _ hH, cell_of_row _ B 2 _ _ _ hH, cell_of_row _ B 4 _ _ _ hH⟩ ?_
  clear hK K He H0
  have He := Lib.hid (two_send2 fr x b hB2 hb)
  clear hB2 hH
  repeat (first
    | (refine wpC_pure (v := ?_) rfl (by rfl) ?_ ?_
       rotate_left 1
       · (intro w; go_simp; try with_reducible rfl)
       try simp only [Act.put, List.setIfInBounds_toArray, List.set_cons_zero, List.set_cons_succ, List.getElem_toArray, List.getElem_cons_succ, List.getElem_cons_zero])
    | (refine wpC_held (v := ?_) rfl (by rfl) ?_ ?_
       rotate_left 1
       · (rintro w ⟨hs1, hs2, hs4⟩; go_simp; try with_reducible rfl)
       try simp only [Act.put, List.setIfInBounds_toArray, List.set_cons_zero, List.set_cons_succ, List.getElem_toArray, List.getElem_cons_succ, List.getElem_cons_zero]))
  refine wpC_last rfl (by rfl) (fun K hK => ?_)
  go_simp
  refine He.out.mono ?_
  rintro e w3 ⟨rfl, hB3⟩
  refine hK _ _ ?_
  clear hK K He
  have hF := hB3.unbox
  have hG := heap_lt hB3.held
  clear hB3
  generalize (sendM to c fr x b).2.2 = z at *
  have hz : (z == z) = true := by simp
  repeat (first
    | (refine wpC_pure (v := ?_) rfl (by rfl) ?_ ?_
       rotate_left 1
       · (intro w; go_simp; try with_reducible rfl)
       try simp only [Act.put, List.setIfInBounds_toArray, List.set_cons_zero, List.set_cons_succ, List.getElem_toArray, List.getElem_cons_succ, List.getElem_cons_zero])
    | (refine wpC_held (v := ?_) rfl (by rfl) ?_ ?_
       rotate_left 1
       · (rintro w ⟨hs1, hs2, hs4⟩; go_simp; try with_reducible rfl)
       try simp only [Act.put, List.setIfInBounds_toArray, List.set_cons_zero, List.set_cons_succ, List.getElem_toArray, List.getElem_cons_succ, List.getElem_cons_zero]))
  refine wpC_nil ?_
  go_wp2_with fail
  go_ret
  exact ⟨rfl, hF, by rw [hBe]; exact hG⟩

set_option maxRecDepth 100000 in
set_option maxHeartbeats 2000000 in
theorem step_2 {W w : World} {a t r s : Nat} {to : List (List Pk)} {c : List Int} {X : List (Nat × Obj)} (k fr x i : Int) (b : ByteArray) (hk : k % 6 = 2) (hk1 : -9223372036854775808 ≤ k) (hk2 : k ≤ 9223372036854775807) (hb : b.size ≤ 9223372036854775807) (hs : Short to) (h : Two W w a t r s to c to c X) :
    Calls Try.prog 13 #[.pointer (some ⟨a, 0, none⟩), .pointer (some ⟨r, 0, none⟩), .agg (boxAct k fr x i b)] w fun e w' => e = .returned (.bool true) ∧ Two W w' a t r s ((pullM to c x i 1).1) ((pullM to c x i 1).2) ((pullM to c x i 1).1) ((pullM to c x i 1).2) X ∧ w.heap.size < w'.heap.size := by
  have Hs := Lib.hid hs
  have hlt := h.old.size
  clear hs
  go_enter Try.func13, Try.ntmps13
  go_wp2_with fail
  refine (among_any k 6 _ (by omega) (by omega) hk1 hk2).mono ?_
  rintro e w1 ⟨rfl, rfl⟩
  have hB := h.box (Obj.cells (boxAct k fr x i b) 40)
  rw [hk]
  have hH := hB.held
  have B1 := cell_of_row _ w.heap.size 1 _ _ _ hH
  have B2 := cell_of_row _ w.heap.size 2 _ _ _ hH
  have B3 := cell_of_row _ w.heap.size 3 _ _ _ hH
  have B4 := cell_of_row _ w.heap.size 4 _ _ _ hH
  simp only [List.getElem?_toArray, List.getElem?_cons_succ, List.getElem?_cons_zero] at B1 B2 B3 B4
  generalize hw1 : w.alloc (Obj.cells (boxAct k fr x i b) 40) = w1 at *
  generalize hBe : w.heap.size = B at *
  clear hH hw1 h hk hlt hk1 hk2
  have He := Lib.hid (two_lose x i (hB.keep (Keeps.refl _ _).drew))
  have H0 := Lib.hid hB
  clear hB
  go_wp2_with fail
  refine wp_region_chain (fun w' => w'.cell? ⟨B, 2, none⟩ = some (.int .i64 x) ∧ w'.cell? ⟨B, 3, none⟩ = some (.int .i64 i)) [11] [(0, 0), (1, 0), (2, 1), (3, 0), (4, 1), (6, 0), (7, 0), (8, 1), (9, 0), (10, 1), (5, 2), (11, 3), (12, 0), (13, 0)] (by kernel_rfl) (by kernel_rfl) (fun _ d _ _ _ h => by cases d <;> exact h) (by go_simp) ?_
  repeat (first
    | (refine wpC_pure (v := ?_) rfl (by rfl) ?_ ?_
       rotate_left 1
       · (intro w; go_simp; try with_reducible rfl)
       try simp only [Act.put, List.setIfInBounds_toArray, List.set_cons_zero, List.set_cons_succ, List.getElem_toArray, List.getElem_cons_succ, List.getElem_cons_zero])
    | (refine wpC_held (v := ?_) rfl (by rfl) ?_ ?_
       rotate_left 1
       · (rintro w ⟨hs2, hs3⟩; go_simp; try with_reducible rfl)
       try simp only [Act.put, List.setIfInBounds_toArray, List.set_cons_zero, List.set_cons_succ, List.getElem_toArray, List.getElem_cons_succ, List.getElem_cons_zero]))
  refine wpC_step rfl (by rfl) (fun K hK => ?_)
  go_simp
  refine He.out.mono ?_
  rintro e w2 ⟨rfl, hB2⟩
  have hH := hB2.held
  refine hK _ _ ⟨cell_of_row _ B 2 _ _ _ hH, cell_of_row _ B 3 _ _ _ hH⟩ ?_
  clear hK K He H0
  have He := Lib.hid (two_lose2 x i hB2)
  clear hB2 hH
  repeat (first
    | (refine wpC_pure (v := ?_) rfl (by rfl) ?_ ?_
       rotate_left 1
       · (intro w; go_simp; try with_reducible rfl)
       try simp only [Act.put, List.setIfInBounds_toArray, List.set_cons_zero, List.set_cons_succ, List.getElem_toArray, List.getElem_cons_succ, List.getElem_cons_zero])
    | (refine wpC_held (v := ?_) rfl (by rfl) ?_ ?_
       rotate_left 1
       · (rintro w ⟨hs2, hs3⟩; go_simp; try with_reducible rfl)
       try simp only [Act.put, List.setIfInBounds_toArray, List.set_cons_zero, List.set_cons_succ, List.getElem_toArray, List.getElem_cons_succ, List.getElem_cons_zero]))
  refine wpC_last rfl (by rfl) (fun K hK => ?_)
  go_simp
  refine He.out.mono ?_
  rintro e w3 ⟨rfl, hB3⟩
  refine hK _ _ ?_
  clear hK K He
  have hF := hB3.unbox
  have hG := heap_lt hB3.held
  clear hB3
  generalize (getM to x i).2 = z at *
  have hz : (z == z) = true := by simp
  repeat (first
    | (refine wpC_pure (v := ?_) rfl (by rfl) ?_ ?_
       rotate_left 1
       · (intro w; go_simp; try with_reducible rfl)
       try simp only [Act.put, List.setIfInBounds_toArray, List.set_cons_zero, List.set_cons_succ, List.getElem_toArray, List.getElem_cons_succ, List.getElem_cons_zero])
    | (refine wpC_held (v := ?_) rfl (by rfl) ?_ ?_
       rotate_left 1
       · (rintro w ⟨hs2, hs3⟩; go_simp; try with_reducible rfl)
       try simp only [Act.put, List.setIfInBounds_toArray, List.set_cons_zero, List.set_cons_succ, List.getElem_toArray, List.getElem_cons_succ, List.getElem_cons_zero]))
  refine wpC_nil ?_
  go_wp2_with fail
  go_ret
  exact ⟨rfl, hF, by rw [hBe]; exact hG⟩

set_option maxRecDepth 100000 in
set_option maxHeartbeats 2000000 in
theorem step_3 {W w : World} {a t r s : Nat} {to : List (List Pk)} {c : List Int} {X : List (Nat × Obj)} (k fr x i : Int) (b : ByteArray) (hk : k % 6 = 3) (hk1 : -9223372036854775808 ≤ k) (hk2 : k ≤ 9223372036854775807) (hb : b.size ≤ 9223372036854775807) (hs : Short to) (h : Two W w a t r s to c to c X) :
    Calls Try.prog 13 #[.pointer (some ⟨a, 0, none⟩), .pointer (some ⟨r, 0, none⟩), .agg (boxAct k fr x i b)] w fun e w' => e = .returned (.bool true) ∧ Two W w' a t r s ((copyM to c x i).1) ((copyM to c x i).2.1) ((copyM to c x i).1) ((copyM to c x i).2.1) X ∧ w.heap.size < w'.heap.size := by
  have Hs := Lib.hid hs
  have hlt := h.old.size
  clear hs
  go_enter Try.func13, Try.ntmps13
  go_wp2_with fail
  refine (among_any k 6 _ (by omega) (by omega) hk1 hk2).mono ?_
  rintro e w1 ⟨rfl, rfl⟩
  have hB := h.box (Obj.cells (boxAct k fr x i b) 40)
  rw [hk]
  have hH := hB.held
  have B1 := cell_of_row _ w.heap.size 1 _ _ _ hH
  have B2 := cell_of_row _ w.heap.size 2 _ _ _ hH
  have B3 := cell_of_row _ w.heap.size 3 _ _ _ hH
  have B4 := cell_of_row _ w.heap.size 4 _ _ _ hH
  simp only [List.getElem?_toArray, List.getElem?_cons_succ, List.getElem?_cons_zero] at B1 B2 B3 B4
  generalize hw1 : w.alloc (Obj.cells (boxAct k fr x i b) 40) = w1 at *
  generalize hBe : w.heap.size = B at *
  clear hH hw1 h hk hlt hk1 hk2
  have He := Lib.hid (two_copy x i (hB.keep (Keeps.refl _ _).drew))
  have H0 := Lib.hid hB
  clear hB
  go_wp2_with fail
  refine wp_region_chain (fun w' => w'.cell? ⟨B, 2, none⟩ = some (.int .i64 x) ∧ w'.cell? ⟨B, 3, none⟩ = some (.int .i64 i)) [11] [(0, 0), (1, 0), (2, 1), (3, 0), (4, 1), (6, 0), (7, 0), (8, 1), (9, 0), (10, 1), (5, 2), (11, 3), (12, 0), (13, 0)] (by kernel_rfl) (by kernel_rfl) (fun _ d _ _ _ h => by cases d <;> exact h) (by go_simp) ?_
  repeat (first
    | (refine wpC_pure (v := ?_) rfl (by rfl) ?_ ?_
       rotate_left 1
       · (intro w; go_simp; try with_reducible rfl)
       try simp only [Act.put, List.setIfInBounds_toArray, List.set_cons_zero, List.set_cons_succ, List.getElem_toArray, List.getElem_cons_succ, List.getElem_cons_zero])
    | (refine wpC_held (v := ?_) rfl (by rfl) ?_ ?_
       rotate_left 1
       · (rintro w ⟨hs2, hs3⟩; go_simp; try with_reducible rfl)
       try simp only [Act.put, List.setIfInBounds_toArray, List.set_cons_zero, List.set_cons_succ, List.getElem_toArray, List.getElem_cons_succ, List.getElem_cons_zero]))
  refine wpC_step rfl (by rfl) (fun K hK => ?_)
  go_simp
  refine He.out.mono ?_
  rintro e w2 ⟨rfl, hB2⟩
  have hH := hB2.held
  refine hK _ _ ⟨cell_of_row _ B 2 _ _ _ hH, cell_of_row _ B 3 _ _ _ hH⟩ ?_
  clear hK K He H0
  have He := Lib.hid (two_copy2 x i hB2 Hs.out)
  clear hB2 hH
  repeat (first
    | (refine wpC_pure (v := ?_) rfl (by rfl) ?_ ?_
       rotate_left 1
       · (intro w; go_simp; try with_reducible rfl)
       try simp only [Act.put, List.setIfInBounds_toArray, List.set_cons_zero, List.set_cons_succ, List.getElem_toArray, List.getElem_cons_succ, List.getElem_cons_zero])
    | (refine wpC_held (v := ?_) rfl (by rfl) ?_ ?_
       rotate_left 1
       · (rintro w ⟨hs2, hs3⟩; go_simp; try with_reducible rfl)
       try simp only [Act.put, List.setIfInBounds_toArray, List.set_cons_zero, List.set_cons_succ, List.getElem_toArray, List.getElem_cons_succ, List.getElem_cons_zero]))
  refine wpC_last rfl (by rfl) (fun K hK => ?_)
  go_simp
  refine He.out.mono ?_
  rintro e w3 ⟨rfl, hB3⟩
  refine hK _ _ ?_
  clear hK K He
  have hF := hB3.unbox
  have hG := heap_lt hB3.held
  clear hB3
  generalize (copyM to c x i).2.2 = z at *
  have hz : (z == z) = true := by simp
  repeat (first
    | (refine wpC_pure (v := ?_) rfl (by rfl) ?_ ?_
       rotate_left 1
       · (intro w; go_simp; try with_reducible rfl)
       try simp only [Act.put, List.setIfInBounds_toArray, List.set_cons_zero, List.set_cons_succ, List.getElem_toArray, List.getElem_cons_succ, List.getElem_cons_zero])
    | (refine wpC_held (v := ?_) rfl (by rfl) ?_ ?_
       rotate_left 1
       · (rintro w ⟨hs2, hs3⟩; go_simp; try with_reducible rfl)
       try simp only [Act.put, List.setIfInBounds_toArray, List.set_cons_zero, List.set_cons_succ, List.getElem_toArray, List.getElem_cons_succ, List.getElem_cons_zero]))
  refine wpC_nil ?_
  go_wp2_with fail
  go_ret
  exact ⟨rfl, hF, by rw [hBe]; exact hG⟩

set_option maxRecDepth 100000 in
set_option maxHeartbeats 2000000 in
theorem step_1 {W w : World} {a t r s : Nat} {to : List (List Pk)} {c : List Int} {X : List (Nat × Obj)} (k fr x i : Int) (b : ByteArray) (hk : k % 6 = 1) (hk1 : -9223372036854775808 ≤ k) (hk2 : k ≤ 9223372036854775807) (hb : b.size ≤ 9223372036854775807) (hs : Short to) (h : Two W w a t r s to c to c X) :
    Calls Try.prog 13 #[.pointer (some ⟨a, 0, none⟩), .pointer (some ⟨r, 0, none⟩), .agg (boxAct k fr x i b)] w fun e w' => e = .returned (.bool true) ∧ Two W w' a t r s ((pullM to c x i 3).1) ((pullM to c x i 3).2) ((pullM to c x i 3).1) ((pullM to c x i 3).2) X ∧ w.heap.size < w'.heap.size := by
  have Hs := Lib.hid hs
  have hlt := h.old.size
  clear hs
  go_enter Try.func13, Try.ntmps13
  go_wp2_with fail
  refine (among_any k 6 _ (by omega) (by omega) hk1 hk2).mono ?_
  rintro e w1 ⟨rfl, rfl⟩
  have hB := h.box (Obj.cells (boxAct k fr x i b) 40)
  rw [hk]
  have hH := hB.held
  have B1 := cell_of_row _ w.heap.size 1 _ _ _ hH
  have B2 := cell_of_row _ w.heap.size 2 _ _ _ hH
  have B3 := cell_of_row _ w.heap.size 3 _ _ _ hH
  have B4 := cell_of_row _ w.heap.size 4 _ _ _ hH
  simp only [List.getElem?_toArray, List.getElem?_cons_succ, List.getElem?_cons_zero] at B1 B2 B3 B4
  generalize hw1 : w.alloc (Obj.cells (boxAct k fr x i b) 40) = w1 at *
  generalize hBe : w.heap.size = B at *
  clear hH hw1 h hk hlt hk1 hk2
  have He := Lib.hid (two_take x i hB)
  clear hB
  go_wp2_with fail
  refine He.out.mono ?_
  rintro e w2 ⟨rfl, hB2⟩
  have hH := hB2.held
  have B1 := cell_of_row _ B 1 _ _ _ hH
  have B2 := cell_of_row _ B 2 _ _ _ hH
  have B3 := cell_of_row _ B 3 _ _ _ hH
  simp only [List.getElem?_toArray, List.getElem?_cons_succ, List.getElem?_cons_zero] at B1 B2 B3
  have He := Lib.hid (two_take2 x i hB2)
  clear hB2 hH
  go_wp2_with fail
  refine He.out.mono ?_
  rintro e w3 ⟨rfl, hB3⟩
  clear He
  have hF := hB3.unbox
  have hG := heap_lt hB3.held
  clear hB3 Hs
  generalize (getM to x i) = z at *
  have z1 : (z.1.1 == z.1.1) = true := by simp
  have z3 : (z.2 == z.2) = true := by simp
  go_wp2_with fail
  go_ret
  exact ⟨rfl, hF, by rw [hBe]; exact hG⟩

set_option maxRecDepth 100000 in
set_option maxHeartbeats 2000000 in
theorem step_4 {W w : World} {a t r s : Nat} {to : List (List Pk)} {c : List Int} {X : List (Nat × Obj)} (k fr x i : Int) (b : ByteArray) (hk : k % 6 = 4) (hk1 : -9223372036854775808 ≤ k) (hk2 : k ≤ 9223372036854775807) (hb : b.size ≤ 9223372036854775807) (hs : Short to) (h : Two W w a t r s to c to c X) :
    Calls Try.prog 13 #[.pointer (some ⟨a, 0, none⟩), .pointer (some ⟨r, 0, none⟩), .agg (boxAct k fr x i b)] w fun e w' => e = .returned (.bool true) ∧ Two W w' a t r s ((clearM to c x).1) ((clearM to c x).2.1) ((clearM to c x).1) ((clearM to c x).2.1) X ∧ w.heap.size < w'.heap.size := by
  have Hs := Lib.hid hs
  have hlt := h.old.size
  clear hs
  go_enter Try.func13, Try.ntmps13
  go_wp2_with fail
  refine (among_any k 6 _ (by omega) (by omega) hk1 hk2).mono ?_
  rintro e w1 ⟨rfl, rfl⟩
  have hB := h.box (Obj.cells (boxAct k fr x i b) 40)
  rw [hk]
  have hH := hB.held
  have B1 := cell_of_row _ w.heap.size 1 _ _ _ hH
  have B2 := cell_of_row _ w.heap.size 2 _ _ _ hH
  have B3 := cell_of_row _ w.heap.size 3 _ _ _ hH
  have B4 := cell_of_row _ w.heap.size 4 _ _ _ hH
  simp only [List.getElem?_toArray, List.getElem?_cons_succ, List.getElem?_cons_zero] at B1 B2 B3 B4
  generalize hw1 : w.alloc (Obj.cells (boxAct k fr x i b) 40) = w1 at *
  generalize hBe : w.heap.size = B at *
  clear hH hw1 h hk hlt hk1 hk2
  have He := Lib.hid (two_clear x hB)
  clear hB
  go_wp2_with fail
  refine He.out.mono ?_
  rintro e w2 ⟨rfl, hB2⟩
  have hH := hB2.held
  have B1 := cell_of_row _ B 1 _ _ _ hH
  have B2 := cell_of_row _ B 2 _ _ _ hH
  have B3 := cell_of_row _ B 3 _ _ _ hH
  simp only [List.getElem?_toArray, List.getElem?_cons_succ, List.getElem?_cons_zero] at B1 B2 B3
  have He := Lib.hid (two_clear2 x hB2)
  clear hB2 hH
  go_wp2_with fail
  refine He.out.mono ?_
  rintro e w3 ⟨rfl, hB3⟩
  clear He
  have hF := hB3.unbox
  have hG := heap_lt hB3.held
  clear hB3 Hs
  generalize (clearM to c x).2.2.1 = z1 at *
  generalize (clearM to c x).2.2.2 = z2 at *
  have z1 : (z1 == z1) = true := by simp
  have z2 : (z2 == z2) = true := by simp
  go_wp2_with fail
  go_ret
  exact ⟨rfl, hF, by rw [hBe]; exact hG⟩

set_option maxRecDepth 100000 in
set_option maxHeartbeats 2000000 in
theorem step_5 {W w : World} {a t r s : Nat} {to : List (List Pk)} {c : List Int} {X : List (Nat × Obj)} (k fr x i : Int) (b : ByteArray) (hk : k % 6 = 5) (hk1 : -9223372036854775808 ≤ k) (hk2 : k ≤ 9223372036854775807) (hb : b.size ≤ 9223372036854775807) (hs : Short to) (h : Two W w a t r s to c to c X) :
    Calls Try.prog 13 #[.pointer (some ⟨a, 0, none⟩), .pointer (some ⟨r, 0, none⟩), .agg (boxAct k fr x i b)] w fun e w' => e = .returned (.bool true) ∧ Two W w' a t r s (to) (c) (to) (c) X ∧ w.heap.size < w'.heap.size := by
  have Hs := Lib.hid hs
  have hlt := h.old.size
  clear hs
  go_enter Try.func13, Try.ntmps13
  go_wp2_with fail
  refine (among_any k 6 _ (by omega) (by omega) hk1 hk2).mono ?_
  rintro e w1 ⟨rfl, rfl⟩
  have hB := h.box (Obj.cells (boxAct k fr x i b) 40)
  rw [hk]
  have hH := hB.held
  have B1 := cell_of_row _ w.heap.size 1 _ _ _ hH
  have B2 := cell_of_row _ w.heap.size 2 _ _ _ hH
  have B3 := cell_of_row _ w.heap.size 3 _ _ _ hH
  have B4 := cell_of_row _ w.heap.size 4 _ _ _ hH
  simp only [List.getElem?_toArray, List.getElem?_cons_succ, List.getElem?_cons_zero] at B1 B2 B3 B4
  generalize hw1 : w.alloc (Obj.cells (boxAct k fr x i b) 40) = w1 at *
  generalize hBe : w.heap.size = B at *
  clear hH hw1 h hk hlt hk1 hk2
  have He := Lib.hid (two_way x hB)
  clear hB
  go_wp2_with fail
  refine He.out.mono ?_
  rintro e w2 ⟨rfl, hB2⟩
  have hH := hB2.held
  have B1 := cell_of_row _ B 1 _ _ _ hH
  have B2 := cell_of_row _ B 2 _ _ _ hH
  have B3 := cell_of_row _ B 3 _ _ _ hH
  simp only [List.getElem?_toArray, List.getElem?_cons_succ, List.getElem?_cons_zero] at B1 B2 B3
  have He := Lib.hid (two_way2 x hB2)
  clear hB2 hH
  go_wp2_with fail
  refine He.out.mono ?_
  rintro e w3 ⟨rfl, hB3⟩
  clear He
  have hF := hB3.unbox
  have hG := heap_lt hB3.held
  clear hB3 Hs
  generalize (wayM to x).1 = z1 at *
  generalize (wayM to x).2 = z2 at *
  have z1 : (z1 == z1) = true := by simp
  have z2 : (z2 == z2) = true := by simp
  go_wp2_with fail
  go_ret
  exact ⟨rfl, hF, by rw [hBe]; exact hG⟩

theorem step_any {W w : World} {a t r s : Nat} {to : List (List Pk)} {c : List Int} {X : List (Nat × Obj)} (q : ActV) (hq : q.ok) (hs : Short to) (h : Two W w a t r s to c to c X) :
    Calls Try.prog 13 #[.pointer (some ⟨a, 0, none⟩), .pointer (some ⟨r, 0, none⟩), .agg q.cells] w fun e w' => e = .returned (.bool true) ∧ Two W w' a t r s (stepM to c q).1 (stepM to c q).2 (stepM to c q).1 (stepM to c q).2 X ∧ w.heap.size < w'.heap.size := by
  obtain ⟨k, fr, x, i, b⟩ := q
  obtain ⟨⟨h1, h2⟩, _, _, _, hb⟩ := hq
  simp only [maxLen] at h1 h2 hb
  have h1k := Int.emod_nonneg k (by omega : (6:Int) ≠ 0)
  have h2k := Int.emod_lt_of_pos k (by omega : (0:Int) < 6)
  have hb' : b.size ≤ 9223372036854775807 := by omega
  have hk : k % 6 = 0 ∨ k % 6 = 1 ∨ k % 6 = 2 ∨ k % 6 = 3 ∨ k % 6 = 4 ∨ k % 6 = 5 := by omega
  rcases hk with hk | hk | hk | hk | hk | hk
  · have g := step_0 k fr x i b hk h1 h2 hb' hs h
    simp only [stepM, hk, if_true]
    exact g
  · have g := step_1 k fr x i b hk h1 h2 hb' hs h
    have e0 : ¬ (1 : Int) = 0 := by omega
    simp only [stepM, hk, if_true, e0, if_false]
    exact g
  · have g := step_2 k fr x i b hk h1 h2 hb' hs h
    have e0 : ¬ (2 : Int) = 0 := by omega
    have e1 : ¬ (2 : Int) = 1 := by omega
    simp only [stepM, hk, if_true, e0, e1, if_false]
    exact g
  · have g := step_3 k fr x i b hk h1 h2 hb' hs h
    have e0 : ¬ (3 : Int) = 0 := by omega
    have e1 : ¬ (3 : Int) = 1 := by omega
    have e2 : ¬ (3 : Int) = 2 := by omega
    simp only [stepM, hk, if_true, e0, e1, e2, if_false]
    exact g
  · have g := step_4 k fr x i b hk h1 h2 hb' hs h
    have e0 : ¬ (4 : Int) = 0 := by omega
    have e1 : ¬ (4 : Int) = 1 := by omega
    have e2 : ¬ (4 : Int) = 2 := by omega
    have e3 : ¬ (4 : Int) = 3 := by omega
    simp only [stepM, hk, if_true, e0, e1, e2, e3, if_false]
    exact g
  · have g := step_5 k fr x i b hk h1 h2 hb' hs h
    have e0 : ¬ (5 : Int) = 0 := by omega
    have e1 : ¬ (5 : Int) = 1 := by omega
    have e2 : ¬ (5 : Int) = 2 := by omega
    have e3 : ¬ (5 : Int) = 3 := by omega
    have e4 : ¬ (5 : Int) = 4 := by omega
    simp only [stepM, hk, if_true, e0, e1, e2, e3, e4, if_false]
    exact g

end Go.Proofs.Ytgkdlpbnhjfkdaa
