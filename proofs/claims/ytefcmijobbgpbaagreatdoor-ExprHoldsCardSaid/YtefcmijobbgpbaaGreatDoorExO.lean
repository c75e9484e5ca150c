/- How operations are reckoned: the nine closures. Conditions: those of each theorem. -/
import Derived.Test.YtefcmijobbgpbaaGreatDoorExN
namespace Go.Proofs.YtefcmijobbgpbaaGreatDoor
open Go.RowKit

def valAgg (v : ValR) : Value := .agg #[.int .i64 v.n, .string v.s, .bool v.ok]

theorem run_eqIn_val (w : World) (n n' : Int) (s s' : ByteArray) (b b' : Bool) :
    (Op.equalIn 10000 81 (.agg #[.int .i64 n, .string s, .bool b]) (.agg #[.int .i64 n', .string s', .bool b'])).run Tryz.prog w = .ok ((n == n') && ((s.toList == s'.toList) && (b == b'))) w := by
  rw [run_equalIn_struct w 9999 81 _ _ (by kernel_rfl) (by kernel_rfl)]
  simp only [Program.fieldsOf, Tryz.underlying81]
  simp [Op.eqFields, go_sem]
  by_cases h1 : n = n' <;> by_cases h2 : s.toList = s'.toList <;> by_cases h3 : b = b' <;> simp [h1, h2, h3]

theorem val_guard : Tryz.prog.eqGuardType Tryz.prog.depth 81 = false := by kernel_rfl

theorem val_block {w : World} {B : Nat} {a b c : Value} {t : TypeId} (h : w.heap[B]? = some (.cells #[a, b, c] t)) :
    w.cell? ⟨B, 0, none⟩ = some a ∧ w.cell? ⟨B, 1, none⟩ = some b ∧ w.cell? ⟨B, 2, none⟩ = some c ∧ w.frozen? ⟨B, 0, none⟩ = false ∧ w.frozen? ⟨B, 1, none⟩ = false ∧ w.frozen? ⟨B, 2, none⟩ = false := by
  simp [World.cell?, World.frozen?, h]

set_option maxHeartbeats 2000000 in
set_option maxRecDepth 100000 in
theorem op1_any (a b : ValR) (w : World) :
    Calls Tryz.prog 60 #[.agg #[.int .i64 a.n, .string a.s, .bool a.ok], .agg #[.int .i64 b.n, .string b.s, .bool b.ok]] w fun e w' => e = .returned (valAgg (twoM 4 a b)) ∧ Keeps [] w w' := by
  have hk0 := Keeps.refl [] w
  obtain ⟨n, s, ok⟩ := a
  obtain ⟨n', s', ok'⟩ := b
  have EQ := Lib.hid run_eqIn_val
  have GD := Lib.hid val_guard
  go_enter Tryz.func60, Tryz.ntmps60
  go_wp2_with fail
  all_goals refine ret_row1 rfl (w.heap.size + 1 + 1) _ _ _ _ rfl (heap_top (by simp)) Tryz.underlying81 rfl (by kernel_rfl) rfl ?_
  all_goals refine ⟨congrArg Ending.returned ?_, ((hk0.alloc _).alloc _).alloc _⟩
  all_goals clear EQ GD hk0
  all_goals simp_all [twoM, valAgg, ValR.num]

set_option maxHeartbeats 2000000 in
set_option maxRecDepth 100000 in
theorem op2_any (a b : ValR) (w : World) :
    Calls Tryz.prog 61 #[.agg #[.int .i64 a.n, .string a.s, .bool a.ok], .agg #[.int .i64 b.n, .string b.s, .bool b.ok]] w fun e w' => e = .returned (valAgg (twoM 5 a b)) ∧ Keeps [] w w' := by
  have hk0 := Keeps.refl [] w
  obtain ⟨n, s, ok⟩ := a
  obtain ⟨n', s', ok'⟩ := b
  have EQ := Lib.hid run_eqIn_val
  have GD := Lib.hid val_guard
  go_enter Tryz.func61, Tryz.ntmps61
  go_wp2_with fail
  all_goals refine ret_row1 rfl (w.heap.size + 1 + 1) _ _ _ _ rfl (heap_top (by simp)) Tryz.underlying81 rfl (by kernel_rfl) rfl ?_
  all_goals refine ⟨congrArg Ending.returned ?_, ((hk0.alloc _).alloc _).alloc _⟩
  all_goals clear EQ GD hk0
  all_goals simp_all [twoM, valAgg, ValR.num]

set_option maxHeartbeats 2000000 in
set_option maxRecDepth 100000 in
theorem op3_any (a b : ValR) (w : World) :
    Calls Tryz.prog 62 #[.agg #[.int .i64 a.n, .string a.s, .bool a.ok], .agg #[.int .i64 b.n, .string b.s, .bool b.ok]] w fun e w' => e = .returned (valAgg (twoM 6 a b)) ∧ Keeps [] w w' := by
  have hk0 := Keeps.refl [] w
  obtain ⟨n, s, ok⟩ := a
  obtain ⟨n', s', ok'⟩ := b
  have EQ := Lib.hid run_eqIn_val
  have GD := Lib.hid val_guard
  go_enter Tryz.func62, Tryz.ntmps62
  go_wp2_with fail
  all_goals refine ret_row1 rfl (w.heap.size + 1 + 1) _ _ _ _ rfl (heap_top (by simp)) Tryz.underlying81 rfl (by kernel_rfl) rfl ?_
  all_goals refine ⟨congrArg Ending.returned ?_, ((hk0.alloc _).alloc _).alloc _⟩
  all_goals clear EQ GD hk0
  all_goals simp_all [twoM, valAgg, ValR.num]

set_option maxHeartbeats 2000000 in
set_option maxRecDepth 100000 in
theorem op4_any (a b : ValR) (w : World) :
    Calls Tryz.prog 63 #[.agg #[.int .i64 a.n, .string a.s, .bool a.ok], .agg #[.int .i64 b.n, .string b.s, .bool b.ok]] w fun e w' => e = .returned (valAgg (twoM 7 a b)) ∧ Keeps [] w w' := by
  have hk0 := Keeps.refl [] w
  obtain ⟨n, s, ok⟩ := a
  obtain ⟨n', s', ok'⟩ := b
  have EQ := Lib.hid run_eqIn_val
  have GD := Lib.hid val_guard
  go_enter Tryz.func63, Tryz.ntmps63
  go_wp2_with fail
  all_goals refine ret_row1 rfl (w.heap.size + 1 + 1) _ _ _ _ rfl (heap_top (by simp)) Tryz.underlying81 rfl (by kernel_rfl) rfl ?_
  all_goals refine ⟨congrArg Ending.returned ?_, ((hk0.alloc _).alloc _).alloc _⟩
  all_goals clear EQ GD hk0
  all_goals simp_all [twoM, valAgg, ValR.truth]

set_option maxHeartbeats 2000000 in
set_option maxRecDepth 100000 in
theorem op5_any (a b : ValR) (w : World) :
    Calls Tryz.prog 64 #[.agg #[.int .i64 a.n, .string a.s, .bool a.ok], .agg #[.int .i64 b.n, .string b.s, .bool b.ok]] w fun e w' => e = .returned (valAgg (twoM 8 a b)) ∧ Keeps [] w w' := by
  have hk0 := Keeps.refl [] w
  obtain ⟨n, s, ok⟩ := a
  obtain ⟨n', s', ok'⟩ := b
  have EQ := Lib.hid run_eqIn_val
  have GD := Lib.hid val_guard
  go_enter Tryz.func64, Tryz.ntmps64
  go_wp2_with fail
  all_goals refine ret_row1 rfl (w.heap.size + 1 + 1) _ _ _ _ rfl (heap_top (by simp)) Tryz.underlying81 rfl (by kernel_rfl) rfl ?_
  all_goals refine ⟨congrArg Ending.returned ?_, ((hk0.alloc _).alloc _).alloc _⟩
  all_goals clear EQ GD hk0
  all_goals simp_all [twoM, valAgg, ValR.truth]

set_option maxHeartbeats 2000000 in
set_option maxRecDepth 100000 in
theorem op6_any (a b : ValR) (w : World) :
    Calls Tryz.prog 65 #[.agg #[.int .i64 a.n, .string a.s, .bool a.ok], .agg #[.int .i64 b.n, .string b.s, .bool b.ok]] w fun e w' => e = .returned (valAgg (twoM 9 a b)) ∧ Keeps [] w w' := by
  have hk0 := Keeps.refl [] w
  obtain ⟨n, s, ok⟩ := a
  obtain ⟨n', s', ok'⟩ := b
  have EQ := Lib.hid run_eqIn_val
  have GD := Lib.hid val_guard
  go_enter Tryz.func65, Tryz.ntmps65
  go_wp2_with fail
  all_goals refine ret_row1 rfl (w.heap.size + 1 + 1) _ _ _ _ rfl (heap_top (by simp)) Tryz.underlying81 rfl (by kernel_rfl) rfl ?_
  all_goals refine ⟨congrArg Ending.returned ?_, ((hk0.alloc _).alloc _).alloc _⟩
  all_goals clear EQ GD hk0
  all_goals simp_all [twoM, valAgg, ValR.truth, ← ByteArray.toList_eq]

set_option maxHeartbeats 2000000 in
set_option maxRecDepth 100000 in
theorem op7_any (a b : ValR) (w : World) :
    Calls Tryz.prog 66 #[.agg #[.int .i64 a.n, .string a.s, .bool a.ok], .agg #[.int .i64 b.n, .string b.s, .bool b.ok]] w fun e w' => e = .returned (valAgg (twoM 10 a b)) ∧ Keeps [] w w' := by
  have hk0 := Keeps.refl [] w
  obtain ⟨n, s, ok⟩ := a
  obtain ⟨n', s', ok'⟩ := b
  have EQ := Lib.hid run_eqIn_val
  have GD := Lib.hid val_guard
  go_enter Tryz.func66, Tryz.ntmps66
  go_wp2_with fail
  all_goals refine ret_row1 rfl (w.heap.size + 1 + 1) _ _ _ _ rfl (heap_top (by simp)) Tryz.underlying81 rfl (by kernel_rfl) rfl ?_
  all_goals refine ⟨congrArg Ending.returned ?_, ((hk0.alloc _).alloc _).alloc _⟩
  all_goals clear EQ GD hk0
  all_goals simp_all [twoM, valAgg, ValR.truth, ← ByteArray.toList_eq]

set_option maxHeartbeats 2000000 in
set_option maxRecDepth 100000 in
theorem op8_any (a b : ValR) (w : World) :
    Calls Tryz.prog 67 #[.agg #[.int .i64 a.n, .string a.s, .bool a.ok], .agg #[.int .i64 b.n, .string b.s, .bool b.ok]] w fun e w' => e = .returned (valAgg (twoM 11 a b)) ∧ Keeps [] w w' := by
  have hk0 := Keeps.refl [] w
  obtain ⟨n, s, ok⟩ := a
  obtain ⟨n', s', ok'⟩ := b
  have EQ := Lib.hid run_eqIn_val
  have GD := Lib.hid val_guard
  go_enter Tryz.func67, Tryz.ntmps67
  go_wp2_with fail
  all_goals refine ret_row1 rfl (w.heap.size + 1 + 1) _ _ _ _ rfl (heap_top (by simp)) Tryz.underlying81 rfl (by kernel_rfl) rfl ?_
  all_goals refine ⟨congrArg Ending.returned ?_, ((hk0.alloc _).alloc _).alloc _⟩
  all_goals clear EQ GD hk0
  all_goals simp_all [twoM, valAgg, ValR.truth]

set_option maxHeartbeats 2000000 in
set_option maxRecDepth 100000 in
theorem op9_any (a b : ValR) (w : World) :
    Calls Tryz.prog 68 #[.agg #[.int .i64 a.n, .string a.s, .bool a.ok], .agg #[.int .i64 b.n, .string b.s, .bool b.ok]] w fun e w' => e = .returned (valAgg (twoM 12 a b)) ∧ Keeps [] w w' := by
  have hk0 := Keeps.refl [] w
  obtain ⟨n, s, ok⟩ := a
  obtain ⟨n', s', ok'⟩ := b
  have EQ := Lib.hid run_eqIn_val
  have GD := Lib.hid val_guard
  go_enter Tryz.func68, Tryz.ntmps68
  go_wp2_with fail
  all_goals refine ret_row1 rfl (w.heap.size + 1 + 1) _ _ _ _ rfl (heap_top (by simp)) Tryz.underlying81 rfl (by kernel_rfl) rfl ?_
  all_goals refine ⟨congrArg Ending.returned ?_, ((hk0.alloc _).alloc _).alloc _⟩
  all_goals clear EQ GD hk0
  all_goals simp_all [twoM, valAgg, ValR.truth]

theorem opFn_any (m : Nat) (hm : m < 9) (a b : ValR) (w : World) :
    Calls Tryz.prog (opFn m) #[valAgg a, valAgg b] w fun e w' => e = .returned (valAgg (twoM (4 + (m : Int)) a b)) ∧ Keeps [] w w' := by
  have hc : m = 0 ∨ m = 1 ∨ m = 2 ∨ m = 3 ∨ m = 4 ∨ m = 5 ∨ m = 6 ∨ m = 7 ∨ m = 8 := by omega
  rcases hc with rfl | rfl | rfl | rfl | rfl | rfl | rfl | rfl | rfl
  · exact op1_any a b w
  · exact op2_any a b w
  · exact op3_any a b w
  · exact op4_any a b w
  · exact op5_any a b w
  · exact op6_any a b w
  · exact op7_any a b w
  · exact op8_any a b w
  · exact op9_any a b w

end Go.Proofs.YtefcmijobbgpbaaGreatDoor
