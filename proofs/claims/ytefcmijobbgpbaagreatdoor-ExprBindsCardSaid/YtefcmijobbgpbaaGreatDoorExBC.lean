/- ExprBinds, walked. Conditions: those of each theorem. -/
import Derived.Test.YtefcmijobbgpbaaGreatDoorExBA
import Derived.Test.YtefcmijobbgpbaaGreatDoorExNN
namespace Go.Proofs.YtefcmijobbgpbaaGreatDoor
open Go.RowKit

/-- The table of the texts. -/
def bdCells : Array Value := #[.string bd00, .string bd01, .string bd02, .string bd10, .string bd11, .string bd12, .string bd20, .string bd21, .string bd22, .string bd30, .string bd31, .string bd32, .string bd40, .string bd41, .string bd42]

theorem bd_cells {w : World} {B : Nat} {t : TypeId} {fr : Nat × Nat} (h : w.heap[B]? = some (.cells bdCells t fr)) (k : Nat) (hk : k < 5) : w.cell? ⟨B, k * 3, none⟩ = some (.string (bdS k 0)) ∧ w.cell? ⟨B, k * 3 + 1, none⟩ = some (.string (bdS k 1)) ∧ w.cell? ⟨B, k * 3 + 2, none⟩ = some (.string (bdS k 2)) := by
  have hc : k = 0 ∨ k = 1 ∨ k = 2 ∨ k = 3 ∨ k = 4 := by omega
  rcases hc with rfl | rfl | rfl | rfl | rfl <;> (simp only [World.cell?, h]; exact ⟨rfl, rfl, rfl⟩)

theorem bd_len (k : Nat) (hk : k < 5) : (bdP k 0).length ≤ 100 := by
  have hc : k = 0 ∨ k = 1 ∨ k = 2 ∨ k = 3 ∨ k = 4 := by omega
  rcases hc with rfl | rfl | rfl | rfl | rfl <;> decide

theorem bdPZ_ok : ∀ p ∈ bdPZ, p.ok := partB_ok _ (by kernel_rfl)

set_option maxHeartbeats 8000000 in
set_option maxRecDepth 100000 in
theorem exprBinds_any (a b : Int) (ha : -9223372036854775808 ≤ a ∧ a ≤ 9223372036854775807) (w : World) (hG : GlobX w) :
    Calls Tryz.prog 6 #[.int .i64 a, .int .i64 b] w fun e w' => e = .returned (.bool true) ∧ Keeps [] w w' := by
  have HG := Lib.hid hG
  have HWk := Lib.hid (works_x w hG)
  have EQ := run_eqIn_fault
  have GD := fault_guard
  have HA := Lib.hid ha
  clear hG ha
  go_enter Tryz.func6, Tryz.ntmps6
  go_wp2_with fail
  refine HWk.out.mono ?_
  rintro e w2 ⟨rfl, hk2⟩
  go_wp2_with fail
  obtain ⟨w3, hw3⟩ : ∃ w3, w3 = w2.alloc (.cells bdCells 53 (0, 0)) := ⟨_, rfl⟩
  have hbT : w3.heap[w2.heap.size]? = some (.cells bdCells 53 (0, 0)) := by rw [hw3]; exact heap_alloc_new _ _
  have hk3 : Keeps [] w w3 := by rw [hw3]; exact hk2.alloc _
  change Code.wp _ _ _ _ (w2.alloc (.cells bdCells 53 (0, 0)))
  rw [← hw3]
  obtain ⟨TB, hTB⟩ : ∃ TB, TB = w2.heap.size := ⟨_, rfl⟩
  rw [← hTB] at hbT ⊢
  have HBT := Lib.hid hbT
  clear hbT hw3 hTB hk2 HWk
  go_loopw [26] (fun i wr => ∃ k : Nat, k ≤ 5 ∧ i = .int .i64 k ∧ Keeps [] w3 wr) (fun i _ => 5 - (intOf i).toNat)
  case atStart => exact ⟨0, Nat.zero_le _, rfl, Keeps.refl [] w3⟩
  case round =>
    obtain ⟨k, hk5, rfl, hk⟩ := hrel
    by_cases hlt : k < 5
    · have d1 : decide ((k : Int) < 5) = true := by simp; omega
      obtain ⟨⟨r0, r1, r2⟩, hs1, hs2⟩ := bd_any k hlt
      have hlen := bd_len k hlt
      obtain ⟨z0, z1, z2⟩ := bd_cells (hk.heap HBT.out (by simp)) k hlt
      generalize bdS k 0 = s0 at *
      generalize bdS k 1 = s1 at *
      generalize bdS k 2 = s2 at *
      generalize bdP k 0 = x0 at *
      generalize bdP k 1 = x1 at *
      generalize bdP k 2 = x2 at *
      have hkT := hk.alloc (.cells #[.string s0, .string s1, .string s2] 53 (0, 0))
      have hbX := heap_alloc_new wr (.cells #[.string s0, .string s1, .string s2] 53 (0, 0))
      have HR := fun s w hG => Lib.hid (read_any s w hG)
      have HRd0 := HR s0 (wr.alloc (.cells #[.string s0, .string s1, .string s2] 53 (0, 0))) (HG.out.keep (hk3.then hkT))
      rw [r0] at HRd0
      have HR1 := fun w hG => HR s1 w hG
      have HR2 := fun w hG => HR s2 w hG
      rw [r1] at HR1
      rw [r2] at HR2
      have HS1 := fun v v' w h h' => Lib.hid (same_both x0 x1 v v' w h h' (by omega))
      have HS2 := fun v v' w h h' => Lib.hid (same_both x0 x2 v v' w h h' (by omega))
      rw [hs1] at HS1
      rw [hs2] at HS2
      have HBX := Lib.hid hbX
      clear HR r0 r1 r2 hs1 hs2 hlen hbX
      go_wp2_with fail
      refine HRd0.out.mono ?_
      rintro e w5 ⟨hro, hk5'⟩
      obtain ⟨ao0, q0, cp0, rfl, hq0, hown0⟩ := hro.ok_form
      have hkF := (hkT.then hk5').alloc (.cells #[.int .i64 0, .int .i64 0] 49 (0, 0))
      have HA0 := Lib.hid ((own_parts hown0 hq0).keep ((Keeps.refl [] w5).alloc (.cells #[.int .i64 0, .int .i64 0] 49 (0, 0))))
      have hbX := alloc_old (hk5'.heap HBX.out (by simp)) (.cells #[.int .i64 0, .int .i64 0] 49 (0, 0))
      have hbF0 := heap_alloc_new w5 (.cells #[.int .i64 0, .int .i64 0] 49 (0, 0))
      have y1 : (w5.alloc (.cells #[.int .i64 0, .int .i64 0] 49 (0, 0))).cell? ⟨wr.heap.size, 1, none⟩ = some (.string s1) := by simp only [World.cell?, hbX]; rfl
      have HBX2 := Lib.hid hbX
      have HF0 := Lib.hid hbF0
      clear HRd0 hro hown0 hq0 hbX hbF0 HBX hkT z0 z1 z2
      go_wp2_with fail
      refine (HR1 _ (HG.out.keep (hk3.then hkF))).out.mono ?_
      rintro e w6 ⟨hro, hk6'⟩
      obtain ⟨ao1, q1, cp1, rfl, hq1, hown1⟩ := hro.ok_form
      have hkF1 := (hkF.then hk6').alloc (.cells #[.int .i64 0, .int .i64 0] 49 (0, 0))
      have hst := hk6'.alloc (.cells #[.int .i64 0, .int .i64 0] 49 (0, 0))
      have HA1 := Lib.hid ((own_parts hown1 hq1).keep ((Keeps.refl [] w6).alloc (.cells #[.int .i64 0, .int .i64 0] 49 (0, 0))))
      have HA0 := Lib.hid (HA0.out.keep hst)
      have hbX := hst.heap HBX2.out (by simp)
      have hbF1 := heap_alloc_new w6 (.cells #[.int .i64 0, .int .i64 0] 49 (0, 0))
      have HF0 := Lib.hid (hst.heap HF0.out (by simp))
      have y2 : (w6.alloc (.cells #[.int .i64 0, .int .i64 0] 49 (0, 0))).cell? ⟨wr.heap.size, 2, none⟩ = some (.string s2) := by simp only [World.cell?, hbX]; rfl
      have HF1 := Lib.hid hbF1
      clear hro hown1 hq1 hbX hbF1 HBX2 hkF hst y1 HR1
      go_wp2_with fail
      refine (HR2 _ (HG.out.keep (hk3.then hkF1))).out.mono ?_
      rintro e w7 ⟨hro, hk7'⟩
      obtain ⟨ao2, q2, cp2, rfl, hq2, hown2⟩ := hro.ok_form
      have hkF2 := (hkF1.then hk7').alloc (.cells #[.int .i64 0, .int .i64 0] 49 (0, 0))
      have hst := hk7'.alloc (.cells #[.int .i64 0, .int .i64 0] 49 (0, 0))
      have HA2 := Lib.hid ((own_parts hown2 hq2).keep ((Keeps.refl [] w7).alloc (.cells #[.int .i64 0, .int .i64 0] 49 (0, 0))))
      have HA0 := Lib.hid (HA0.out.keep hst)
      have HA1 := Lib.hid (HA1.out.keep hst)
      obtain ⟨f0, f1, _, _⟩ := fault_block (hst.heap HF0.out (by simp))
      obtain ⟨g0, g1, _, _⟩ := fault_block (hst.heap HF1.out (by simp))
      obtain ⟨j0, j1, _, _⟩ := fault_block (heap_alloc_new w7 (.cells #[.int .i64 0, .int .i64 0] 49 (0, 0)))
      have HSa := HS1 _ _ _ HA0.out HA1.out
      have HSb := fun w8 (hk8 : Keeps [] (w7.alloc (.cells #[.int .i64 0, .int .i64 0] 49 (0, 0))) w8) => HS2 _ _ w8 (HA0.out.keep hk8) (HA2.out.keep hk8)
      clear hro hown2 hq2 hst y2 HR2 HS1 HS2
      go_wp2_with fail
      refine HSa.out.mono ?_
      rintro e w8 ⟨rfl, hk8⟩
      go_wp2_with fail
      refine (HSb _ hk8).out.mono ?_
      rintro e w9 ⟨rfl, hk9⟩
      go_wp2_with fail
      exact ⟨⟨k + 1, by omega, by simp, (hkF2.then hk8).then hk9⟩, by simp only [intOf]; omega⟩
    · have hke : k = 5 := by omega
      have d1 : decide ((k : Int) < 5) = false := by simp; omega
      have hkw := hk3.then hk
      have HRz := Lib.hid (read_any bdZ wr (HG.out.keep hkw))
      rw [bdZ_read] at HRz
      go_wp2_with fail
      refine HRz.out.mono ?_
      rintro e w5 ⟨hro, hk5'⟩
      obtain ⟨ao, q, cp, rfl, hq, hown⟩ := hro.ok_form
      have hkF := (hkw.then hk5').alloc (.cells #[.int .i64 0, .int .i64 0] 49 (0, 0))
      have hA0 := (own_parts hown hq).keep ((Keeps.refl [] w5).alloc (.cells #[.int .i64 0, .int .i64 0] 49 (0, 0)))
      have hbF := heap_alloc_new w5 (.cells #[.int .i64 0, .int .i64 0] 49 (0, 0))
      have HHo := Lib.hid (holds_any bdPZ (evB a b) [] [] _ (.slice none 0 0) (.slice none 0 0) _ (HG.out.keep hkF) bdPZ_ok hA0 ⟨none, 0, rfl, fun _ => ⟨rfl, rfl⟩, fun h => absurd rfl h⟩ ⟨none, 0, rfl, fun _ => ⟨rfl, rfl⟩, fun h => absurd rfl h⟩)
      rw [bdZ_holds HA.out, bdZ_code] at HHo
      simp only [evB] at HHo
      have HF := Lib.hid hbF
      clear HRz hro hown hq hA0 hbF
      go_wp2_with fail
      refine HHo.out.mono ?_
      rintro e w7 ⟨rfl, hk7⟩
      obtain ⟨y0, y1, _, _⟩ := fault_block (hk7.heap HF.out (by simp))
      go_wp2_with fail
      go_returns
      exact ⟨rfl, hkF.then hk7⟩

end Go.Proofs.YtefcmijobbgpbaaGreatDoor
