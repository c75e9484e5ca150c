/- The chapter's examples. Conditions: those of each theorem. -/
import Derived.Test.YtefcmijobbgpbaaGreatDoorExAA
namespace Go.Proofs.YtefcmijobbgpbaaGreatDoor
open Go.RowKit

theorem ReadOut.err_form {B : Nat} {p c : Int} {e : Ending} {w' : World} (h : ReadOut B (.error (p, c)) e w') : e = .returned (.tuple #[.slice none 0 0, .agg #[.int .i64 p, .int .i64 c]]) := h
theorem ReadOut.ok_form {B : Nat} {x : List PartR} {e : Ending} {w' : World} (h : ReadOut B (.ok x) e w') : ∃ ao q cp, e = .returned (.tuple #[.slice ao q cp, .agg #[.int .i64 0, .int .i64 0]]) ∧ x.length = q ∧ w'.ownsRow B 58 5 (.slice ao q cp) q (partsRow x) := h

def wk1 : ByteArray := ⟨#[110, 48, 32, 43, 32, 49, 32, 60, 32, 97, 46, 110, 48, 32, 97, 110, 100, 32, 116, 121, 112, 101, 32, 61, 61, 32, 39, 120, 39]⟩
def wk2 : ByteArray := ⟨#[110, 48, 32, 60, 32, 49, 32, 60, 32, 50]⟩
def wk3 : ByteArray := ⟨#[110, 48, 32, 97, 110, 100, 32, 49]⟩
def bA : ByteArray := ⟨#[97]⟩
def bX : ByteArray := ⟨#[120]⟩
def wkParts : List PartR := [opP 11, opP 7, opP 4, fieldP ⟨#[]⟩ 0, numP 1, fieldP bA 0, opP 9, fieldP ⟨#[]⟩ 4, textP bX]
def wkText : ByteArray := ⟨#[40, 32, 40, 32, 110, 48, 32, 43, 32, 49, 32, 41, 32, 60, 32, 97, 32, 46, 32, 110, 48, 32, 41, 32, 97, 110, 100, 32, 40, 32, 116, 121, 112, 101, 32, 61, 61, 32, 39, 120, 39, 32, 41]⟩

theorem wk1_toks : toksOf wk1 = .ok [(⟨1, [110, 48], 0⟩, 0), (⟨4, [43], 0⟩, 3), (⟨2, [], 1⟩, 5), (⟨4, [60], 0⟩, 7), (⟨1, [97], 0⟩, 9), (⟨4, [46], 0⟩, 10), (⟨1, [110, 48], 0⟩, 11), (⟨1, [97, 110, 100], 0⟩, 14), (⟨1, [116, 121, 112, 101], 0⟩, 18), (⟨4, [61, 61], 0⟩, 23), (⟨3, [120], 0⟩, 26)] := by kernel_rfl
theorem wk1_read : readM wk1 = .ok wkParts := by kernel_rfl
theorem wk2_read : readM wk2 = .error (7, 110) := by kernel_rfl
theorem wk3_read : readM wk3 = .error (0, 110) := by kernel_rfl
theorem wk_write : writeM wkParts = .ok wkText.data.toList := by kernel_rfl

theorem wkParts_ok : ∀ p ∈ wkParts, p.ok := by
  have h : ∀ p ∈ wkParts, (decide (-9223372036854775808 ≤ p.n) && (decide (p.n ≤ 9223372036854775807) && (decide (p.s.size ≤ 140737488351232) && decide (p.stage.size ≤ 140737488351232)))) = true := by
    intro p hp
    simp only [wkParts, List.mem_cons, List.not_mem_nil, or_false] at hp
    rcases hp with rfl | rfl | rfl | rfl | rfl | rfl | rfl | rfl | rfl <;> rfl
  intro p hp
  have h1 := h p hp
  simp only [Bool.and_eq_true, decide_eq_true_eq] at h1
  exact h1

set_option maxHeartbeats 8000000 in
set_option maxRecDepth 100000 in
theorem works_x (w : World) (hG : GlobX w) :
    Calls Tryz.prog 17 #[] w fun e w' => e = .returned (.bool true) ∧ Keeps [] w w' := by
  have hk0 := Keeps.refl [] w
  have EQ := run_eqIn_fault
  have GD := fault_guard
  have HR := fun s w hG => Lib.hid (read_any s w hG)
  have HG := Lib.hid hG
  have HWr := fun v w hG hA => Lib.hid (write_any wkParts v w hG wkParts_ok hA)
  rw [wk_write] at HWr
  have e1 : joinS (.ok wkText.data.toList) = ⟨#[40, 32, 40, 32, 110, 48, 32, 43, 32, 49, 32, 41, 32, 60, 32, 97, 32, 46, 32, 110, 48, 32, 41, 32, 97, 110, 100, 32, 40, 32, 116, 121, 112, 101, 32, 61, 61, 32, 39, 120, 39, 32, 41]⟩ := by kernel_rfl
  have e2 : joinC (.ok wkText.data.toList) = 0 := rfl
  rw [e1, e2] at HWr
  clear e1 e2
  have h1 := HR wk1 w hG
  rw [wk1_read] at h1
  clear hG
  go_enter Tryz.func17, Tryz.ntmps17
  go_wp2_with fail
  refine h1.out.mono ?_
  rintro e w2 ⟨h2, hk2⟩
  obtain ⟨ao, q, cp, rfl, hq, hown⟩ := h2.ok_form
  have hq9 : q = 9 := hq.symm
  subst hq9
  have hb2 := heap_alloc_new w2 (.cells #[.int .i64 0, .int .i64 0] 49 (0, 0))
  have hk3 := hk2.alloc (.cells #[.int .i64 0, .int .i64 0] 49 (0, 0))
  have hA := (own_parts hown hq).keep ((Keeps.refl [] w2).alloc (.cells #[.int .i64 0, .int .i64 0] 49 (0, 0)))
  have HA := Lib.hid hA
  clear h1 h2 hown hA hq
  go_wp2_with fail
  refine (HWr _ _ (HG.out.keep hk3) HA.out).out.mono ?_
  rintro e w4 ⟨rfl, hk4⟩
  have hk5 := hk3.then hk4
  have hb2 := hk4.heap hb2 (by simp)
  have h3 := HR wk2 w4 (HG.out.keep hk5)
  rw [wk2_read] at h3
  clear HWr HA hk3 hk2
  go_wp2_with fail
  refine h3.out.mono ?_
  rintro e w6 ⟨h6, hk6⟩
  have h6 := h6.err_form
  subst h6
  have hk7 := (hk5.then hk6).alloc (.cells #[.int .i64 7, .int .i64 110] 49 (0, 0))
  have hb6 := heap_alloc_new w6 (.cells #[.int .i64 7, .int .i64 110] 49 (0, 0))
  have hb2 := alloc_old (hk6.heap hb2 (by simp)) (.cells #[.int .i64 7, .int .i64 110] 49 (0, 0))
  have h4 := HR wk3 _ (HG.out.keep hk7)
  rw [wk3_read] at h4
  clear h3
  go_wp2_with fail
  refine h4.out.mono ?_
  rintro e w8 ⟨h8, hk8⟩
  have h8 := h8.err_form
  subst h8
  have hk9 := (hk7.then hk8).alloc (.cells #[.int .i64 0, .int .i64 110] 49 (0, 0))
  have hb8 := heap_alloc_new w8 (.cells #[.int .i64 0, .int .i64 110] 49 (0, 0))
  have hb2 := alloc_old (hk8.heap hb2 (by simp)) (.cells #[.int .i64 0, .int .i64 110] 49 (0, 0))
  have hb6 := alloc_old (hk8.heap hb6 (by simp)) (.cells #[.int .i64 0, .int .i64 110] 49 (0, 0))
  obtain ⟨a0, a1, _, _⟩ := fault_block hb2
  obtain ⟨c0, c1, _, _⟩ := fault_block hb6
  obtain ⟨e0, e1, _, _⟩ := fault_block hb8
  have HK9 := Lib.hid hk9
  clear h4 hk8 hk6 hk5 hk4 HR hk9
  go_wp2_with fail
  go_returns
  exact ⟨rfl, HK9.out⟩

end Go.Proofs.YtefcmijobbgpbaaGreatDoor
