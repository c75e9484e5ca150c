/- Trees in memory; the table's row of an operation. Conditions: those of each theorem. -/
import Derived.Test.YtefcmijobbgpbaaGreatDoorExB
namespace Go.Proofs.YtefcmijobbgpbaaGreatDoor
open Go.RowKit

/-- The table of operations lies in the block O. -/
def OpsAt (w : World) (O : Nat) : Prop := w.heap[O]? = some (.cells opsCells 105 (0, 0))

theorem OpsAt.keep {w w' : World} {O : Nat} (h : OpsAt w O) {S : List Nat} (k : Keeps S w w') (hn : O ∉ S) : OpsAt w' O := k.heap h hn

theorem ops_cells {w : World} {O : Nat} (h : OpsAt w O) (j : Nat) (hj : j < 9) :
    w.cell? ⟨O, j * 7, none⟩ = some (.string (opsL.getD j ⟨⟨#[]⟩, 0, 0, 0, 0, 0⟩).sign) ∧ w.cell? ⟨O, j * 7 + 1, none⟩ = some (.int .i64 (4 + (j : Int))) ∧ w.cell? ⟨O, j * 7 + 2, none⟩ = some (.int .i64 (opsL.getD j ⟨⟨#[]⟩, 0, 0, 0, 0, 0⟩).level) ∧
      w.cell? ⟨O, j * 7 + 3, none⟩ = some (.int .i64 (opsL.getD j ⟨⟨#[]⟩, 0, 0, 0, 0, 0⟩).of_) ∧ w.cell? ⟨O, j * 7 + 4, none⟩ = some (.int .i64 (opsL.getD j ⟨⟨#[]⟩, 0, 0, 0, 0, 0⟩).other) ∧ w.cell? ⟨O, j * 7 + 5, none⟩ = some (.int .i64 (opsL.getD j ⟨⟨#[]⟩, 0, 0, 0, 0, 0⟩).is_) ∧
      w.cell? ⟨O, j * 7 + 6, none⟩ = some (.func (.func (opFn j)) #[] #[]) := by
  unfold OpsAt at h
  have hc : j = 0 ∨ j = 1 ∨ j = 2 ∨ j = 3 ∨ j = 4 ∨ j = 5 ∨ j = 6 ∨ j = 7 ∨ j = 8 := by omega
  rcases hc with rfl | rfl | rfl | rfl | rfl | rfl | rfl | rfl | rfl <;> (simp only [World.cell?, h]; exact ⟨rfl, rfl, rfl, rfl, rfl, rfl, rfl⟩)

set_option maxHeartbeats 2000000 in
set_option maxRecDepth 100000 in
/-- The closure that asks for an operation's kind. -/
theorem sameKind_any (sg : ByteArray) (kd lv o1 o2 is_ : Int) (fv : Value) (T a : Nat) (k : Int) (w : World) (hT : w.cell? ⟨T, 0, none⟩ = some (.pointer (some ⟨a, 0, none⟩))) (ha : w.cell? ⟨a, 0, none⟩ = some (.int .i64 k)) :
    Calls Tryz.prog 59 #[.agg #[.string sg, .int .i64 kd, .int .i64 lv, .int .i64 o1, .int .i64 o2, .int .i64 is_, fv], .pointer (some ⟨T, 0, none⟩)] w fun e w' => e = .returned (.bool (kd == k)) ∧ Keeps [] w w' := by
  have hk0 := Keeps.refl [] w
  have hk1 := hk0.alloc (.cells #[.string sg, .int .i64 kd, .int .i64 lv, .int .i64 o1, .int .i64 o2, .int .i64 is_, fv] 105 (0, 0))
  have hT' := hk1.cell hT (by simp)
  have ha' := hk1.cell ha (by simp)
  go_enter Tryz.func59, Tryz.ntmps59
  go_wp2_with fail
  repeat (go_quiet (fail); try go_wp2_with fail)
  go_returns
  exact ⟨rfl, hk1.drewN _⟩

set_option maxHeartbeats 4000000 in
set_option maxRecDepth 100000 in
theorem indexOp_any (O T a : Nat) (k : Int) (hk4 : 4 ≤ k) (hk12 : k ≤ 12) (w : World) (hO : OpsAt w O) (hT : w.cell? ⟨T, 0, none⟩ = some (.pointer (some ⟨a, 0, none⟩))) (ha : w.cell? ⟨a, 0, none⟩ = some (.int .i64 k)) :
    Calls Tryz.prog 58 #[.slice (some ⟨O, 0, none⟩) 9 9, .func (.func 59) #[] #[.pointer (some ⟨T, 0, none⟩)]] w fun e w' => e = .returned (.int .i64 (k - 4)) ∧ Keeps [] w w' := by
  have hk0 := Keeps.refl [] w
  have HO := Lib.hid hO
  have HT := Lib.hid hT
  have HA := Lib.hid ha
  obtain ⟨m, hm⟩ : ∃ m : Nat, k = 4 + (m : Int) := ⟨(k - 4).toNat, by omega⟩
  have hm9 : m < 9 := by omega
  have HK := Lib.hid hm
  clear hO hT ha hm
  go_enter Tryz.func58, Tryz.ntmps58
  go_wp2_with fail
  go_loopw [8] (fun i wr => ∃ j : Nat, j ≤ m ∧ i = .int .i64 j ∧ Keeps [] w wr) (fun i _ => m + 1 - (intOf i).toNat)
  case atStart => exact ⟨0, Nat.zero_le _, rfl, hk0⟩
  case round =>
    clear hk0
    obtain ⟨j, hjm, rfl, hk⟩ := hrel
    have d1 : decide ((j : Int) < 9) = true := by simp; omega
    obtain ⟨c0, c1, c2, c3, c4, c5, c6⟩ := ops_cells (HO.out.keep hk (by simp)) j (by omega)
    have HS := fun sg lv o1 o2 is_ fv => Lib.hid (sameKind_any sg (4 + (j : Int)) lv o1 o2 is_ fv T a k wr (hk.cell HT.out (by simp)) (hk.cell HA.out (by simp)))
    generalize opsL.getD j ⟨⟨#[]⟩, 0, 0, 0, 0, 0⟩ = o at *
    generalize opFn j = fq at *
    by_cases hjk : j = m
    · have d2 : ((4 + (j : Int)) == k) = true := by rw [beq_iff_eq, HK.out, hjk]
      rw [d2] at HS
      have hr : (j : Int) = k - 4 := by rw [HK.out, hjk]; omega
      have HR := Lib.hid hr
      clear d2 hr hjk
      go_wp2_with (go_at_call 59; refine (HS _ _ _ _ _ _).out.mono ?_; rintro e w2 ⟨rfl, hk2⟩)
      go_returns
      exact ⟨congrArg (fun z => Ending.returned (.int .i64 z)) HR.out, hk.then hk2⟩
    · have d2 : ((4 + (j : Int)) == k) = false := by rw [beq_eq_false_iff_ne, HK.out]; omega
      rw [d2] at HS
      clear d2
      go_wp2_with (go_at_call 59; refine (HS _ _ _ _ _ _).out.mono ?_; rintro e w2 ⟨rfl, hk2⟩)
      exact ⟨⟨j + 1, by omega, by simp, hk.then hk2⟩, by simp only [intOf]; omega⟩

/-! ### Trees in memory -/
def treeRow (p : PartR) (op sl : Value) (k : Int) : Array Value := #[.int .i64 p.kind, .int .i64 p.n, .string p.s, .string p.stage, .int .i64 p.field, op, sl, .int .i64 k]

/-- The tree t lies at the block a, with operations of the table O, in blocks from B on. -/
def TreeAt (w : World) (O B : Nat) : Ex → Nat → Prop
  | .leaf p, a => B ≤ a ∧ w.heap[a]? = some (.cells (treeRow p (.pointer none) (.slice none 0 0) (leafKind p)) 69 (0, 0)) ∧ (p.kind = 1 ∨ p.kind = 2 ∨ p.kind = 3)
  | .neg p x, a => B ≤ a ∧ p.kind = 13 ∧ ∃ lb c b, w.heap[a]? = some (.cells (treeRow p (.pointer none) (.slice (some ⟨lb, 0, none⟩) 1 c) 3) 69 (0, 0)) ∧ B ≤ lb ∧ 1 ≤ c ∧ c ≤ 9223372036854775807 ∧
      w.cell? ⟨lb, 0, none⟩ = some (.pointer (some ⟨b, 0, none⟩)) ∧ TreeAt w O B x b
  | .bin p x y, a => B ≤ a ∧ (4 ≤ p.kind ∧ p.kind ≤ 12) ∧ ∃ lb c b d, w.heap[a]? = some (.cells (treeRow p (.pointer (some ⟨O, opN p.kind * 7, none⟩)) (.slice (some ⟨lb, 0, none⟩) 2 c) (opAt p.kind).is_) 69 (0, 0)) ∧ B ≤ lb ∧ 2 ≤ c ∧ c ≤ 9223372036854775807 ∧
      w.cell? ⟨lb, 0, none⟩ = some (.pointer (some ⟨b, 0, none⟩)) ∧ w.cell? ⟨lb, 1, none⟩ = some (.pointer (some ⟨d, 0, none⟩)) ∧ TreeAt w O B x b ∧ TreeAt w O B y d

theorem TreeAt.keepS {w w' : World} {O B : Nat} {S : List Nat} (k : Keeps S w w') (hS : ∀ x ∈ S, x < B) : ∀ {t : Ex} {a : Nat}, TreeAt w O B t a → TreeAt w' O B t a
  | .leaf p, a, h => ⟨h.1, k.heap h.2.1 (fun hm => by have := hS _ hm; have := h.1; omega), h.2.2⟩
  | .neg p x, a, h => by
    obtain ⟨hB, hp, lb, c, b, h1, hl, h2, h3, h4, h5⟩ := h
    exact ⟨hB, hp, lb, c, b, k.heap h1 (fun hm => by have := hS _ hm; omega), hl, h2, h3, k.cell h4 (fun hm => by have := hS _ hm; simp at this; omega), TreeAt.keepS k hS h5⟩
  | .bin p x y, a, h => by
    obtain ⟨hB, hp, lb, c, b, d, h1, hl, h2, h3, h4, h5, h6, h7⟩ := h
    exact ⟨hB, hp, lb, c, b, d, k.heap h1 (fun hm => by have := hS _ hm; omega), hl, h2, h3, k.cell h4 (fun hm => by have := hS _ hm; simp at this; omega), k.cell h5 (fun hm => by have := hS _ hm; simp at this; omega), TreeAt.keepS k hS h6, TreeAt.keepS k hS h7⟩

theorem TreeAt.keep {w w' : World} {O B : Nat} (k : Keeps [] w w') {t : Ex} {a : Nat} (h : TreeAt w O B t a) : TreeAt w' O B t a := h.keepS k (by simp)

theorem TreeAt.mono {w : World} {O B B' : Nat} (hB' : B' ≤ B) : ∀ {t : Ex} {a : Nat}, TreeAt w O B t a → TreeAt w O B' t a
  | .leaf p, a, h => ⟨Nat.le_trans hB' h.1, h.2⟩
  | .neg p x, a, h => by
    obtain ⟨hB, hp, lb, c, b, h1, hl, h2, h3, h4, h5⟩ := h
    exact ⟨by omega, hp, lb, c, b, h1, by omega, h2, h3, h4, TreeAt.mono hB' h5⟩
  | .bin p x y, a, h => by
    obtain ⟨hB, hp, lb, c, b, d, h1, hl, h2, h3, h4, h5, h6, h7⟩ := h
    exact ⟨by omega, hp, lb, c, b, d, h1, by omega, h2, h3, h4, h5, TreeAt.mono hB' h6, TreeAt.mono hB' h7⟩

/-- What every tree's node tells. -/
theorem TreeAt.node {w : World} {O B : Nat} {t : Ex} {a : Nat} (h : TreeAt w O B t a) : ∃ op sl, w.heap[a]? = some (.cells (treeRow t.part op sl t.kind) 69 (0, 0)) := by
  cases t with
  | leaf p => exact ⟨_, _, h.2.1⟩
  | neg p x => obtain ⟨_, _, _, _, _, h1, _⟩ := h; exact ⟨_, _, h1⟩
  | bin p x y => obtain ⟨_, _, _, _, _, _, h1, _⟩ := h; exact ⟨_, _, h1⟩

theorem node_cells {w : World} {a : Nat} {p : PartR} {op sl : Value} {k : Int} {t : TypeId} (h : w.heap[a]? = some (.cells (treeRow p op sl k) t (0, 0))) :
    w.cell? ⟨a, 0, none⟩ = some (.int .i64 p.kind) ∧ w.cell? ⟨a, 1, none⟩ = some (.int .i64 p.n) ∧ w.cell? ⟨a, 2, none⟩ = some (.string p.s) ∧ w.cell? ⟨a, 3, none⟩ = some (.string p.stage) ∧ w.cell? ⟨a, 4, none⟩ = some (.int .i64 p.field) ∧
      w.cell? ⟨a, 5, none⟩ = some op ∧ w.cell? ⟨a, 6, none⟩ = some sl ∧ w.cell? ⟨a, 7, none⟩ = some (.int .i64 k) := by
  simp [World.cell?, h, treeRow]

end Go.Proofs.YtefcmijobbgpbaaGreatDoor
