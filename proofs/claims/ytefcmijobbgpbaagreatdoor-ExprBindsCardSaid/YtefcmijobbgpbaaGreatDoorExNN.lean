/- ExprSums, walked. Conditions: those of each theorem. -/
import Derived.Test.YtefcmijobbgpbaaGreatDoorExMM
namespace Go.Proofs.YtefcmijobbgpbaaGreatDoor
open Go.RowKit

/-- The table of the nine. -/
def smCells (a b : Int) : Array Value := #[.string sm0, .bool true, .string sm1, .bool true, .string sm2, .bool true, .string sm3, .bool true, .string sm4, .bool true, .string sm5, .bool true, .string sm6, .bool false, .string sm7, .bool (decide (a = b)), .string sm8, .bool (decide (a = b))]

theorem sm_cells {w : World} {B : Nat} {a b : Int} {t : TypeId} {fr : Nat × Nat} (h : w.heap[B]? = some (.cells (smCells a b) t fr)) (k : Nat) (hk : k < 9) : w.cell? ⟨B, k * 2, none⟩ = some (.string (smS k)) ∧ w.cell? ⟨B, k * 2 + 1, none⟩ = some (.bool (smW a b k)) := by
  have hc : k = 0 ∨ k = 1 ∨ k = 2 ∨ k = 3 ∨ k = 4 ∨ k = 5 ∨ k = 6 ∨ k = 7 ∨ k = 8 := by omega
  rcases hc with rfl | rfl | rfl | rfl | rfl | rfl | rfl | rfl | rfl <;> (simp only [World.cell?, h]; exact ⟨rfl, rfl⟩)

theorem partB_ok (l : List PartR) (h : l.all (fun p => decide (-9223372036854775808 ≤ p.n) && (decide (p.n ≤ 9223372036854775807) && (decide (p.s.size ≤ 140737488351232) && decide (p.stage.size ≤ 140737488351232)))) = true) : ∀ p ∈ l, p.ok := fun p hp => by
  have h1 := List.all_eq_true.1 h p hp
  simp only [Bool.and_eq_true, decide_eq_true_eq] at h1
  exact h1

theorem smP0_ok : ∀ p ∈ smP0, p.ok := partB_ok _ (by kernel_rfl)
theorem smP1_ok : ∀ p ∈ smP1, p.ok := partB_ok _ (by kernel_rfl)
theorem smP2_ok : ∀ p ∈ smP2, p.ok := partB_ok _ (by kernel_rfl)
theorem smP3_ok : ∀ p ∈ smP3, p.ok := partB_ok _ (by kernel_rfl)
theorem smP4_ok : ∀ p ∈ smP4, p.ok := partB_ok _ (by kernel_rfl)
theorem smP5_ok : ∀ p ∈ smP5, p.ok := partB_ok _ (by kernel_rfl)
theorem smP6_ok : ∀ p ∈ smP6, p.ok := partB_ok _ (by kernel_rfl)
theorem smP7_ok : ∀ p ∈ smP7, p.ok := partB_ok _ (by kernel_rfl)
theorem smP8_ok : ∀ p ∈ smP8, p.ok := partB_ok _ (by kernel_rfl)
theorem smP_ok (k : Nat) (hk : k < 9) : ∀ p ∈ smP k, p.ok := by
  have hc : k = 0 ∨ k = 1 ∨ k = 2 ∨ k = 3 ∨ k = 4 ∨ k = 5 ∨ k = 6 ∨ k = 7 ∨ k = 8 := by omega
  rcases hc with rfl | rfl | rfl | rfl | rfl | rfl | rfl | rfl | rfl
  · exact smP0_ok
  · exact smP1_ok
  · exact smP2_ok
  · exact smP3_ok
  · exact smP4_ok
  · exact smP5_ok
  · exact smP6_ok
  · exact smP7_ok
  · exact smP8_ok

set_option maxHeartbeats 8000000 in
set_option maxRecDepth 100000 in
theorem exprSums_any (a b c : Int) (ha : -9223372036854775808 ≤ a ∧ a ≤ 9223372036854775807) (w : World) (hG : GlobX w) :
    Calls Tryz.prog 5 #[.int .i64 a, .int .i64 b, .int .i64 c] w fun e w' => e = .returned (.bool true) ∧ Keeps [] w w' := by
  have HG := Lib.hid hG
  have HWk := Lib.hid (works_x w hG)
  have EQ := run_eqIn_fault
  have GD := fault_guard
  have HA := Lib.hid ha
  clear hG
  go_enter Tryz.func5, Tryz.ntmps5
  go_wp2_with fail
  refine HWk.out.mono ?_
  rintro e w2 ⟨rfl, hk2⟩
  go_wp2_with fail
  obtain ⟨w3, hw3⟩ : ∃ w3, w3 = (w2.alloc (.cells #[.string ⟨#[107]⟩, .string ⟨#[116]⟩, .int .i64 a, .int .i64 b, .int .i64 c, .int .i64 (wrap64 (a + b)), .string ⟨#[]⟩] 37 (0, 0))).alloc (.cells (smCells a b) 46 (0, 0)) := ⟨_, rfl⟩
  have hb7 : w3.heap[w2.heap.size]? = some (.cells #[.string ⟨#[107]⟩, .string ⟨#[116]⟩, .int .i64 a, .int .i64 b, .int .i64 c, .int .i64 (wrap64 (a + b)), .string ⟨#[]⟩] 37 (0, 0)) := by rw [hw3]; exact alloc_old (heap_alloc_new _ _) _
  have hbT : w3.heap[w2.heap.size + 1]? = some (.cells (smCells a b) 46 (0, 0)) := by rw [hw3]; exact heap_alloc2_new _ _ _
  have hk3 : Keeps [] w w3 := by rw [hw3]; exact (hk2.alloc _).alloc _
  change Code.wp _ _ _ _ ((w2.alloc (.cells #[.string ⟨#[107]⟩, .string ⟨#[116]⟩, .int .i64 a, .int .i64 b, .int .i64 c, .int .i64 (wrap64 (a + b)), .string ⟨#[]⟩] 37 (0, 0))).alloc (.cells (smCells a b) 46 (0, 0)))
  rw [← hw3]
  obtain ⟨T7, hT7⟩ : ∃ T7, T7 = w2.heap.size := ⟨_, rfl⟩
  obtain ⟨TB, hTB⟩ : ∃ TB, TB = w2.heap.size + 1 := ⟨_, rfl⟩
  rw [← hTB] at hbT ⊢
  rw [← hT7] at hb7 ⊢
  have HBT := Lib.hid hbT
  have HB7 := Lib.hid hb7
  clear hbT hb7 hw3 hT7 hTB hk2 HWk
  go_loopw [41] (fun i wr => ∃ k : Nat, k ≤ 9 ∧ i = .int .i64 k ∧ Keeps [] w3 wr) (fun i _ => 9 - (intOf i).toNat)
  case atStart => exact ⟨0, Nat.zero_le _, rfl, Keeps.refl [] w3⟩
  case round =>
    obtain ⟨k, hk9, rfl, hk⟩ := hrel
    by_cases hlt : k < 9
    · have d1 : decide ((k : Int) < 9) = true := by simp; omega
      obtain ⟨hread, hval, hcode⟩ := sm_any (b := b) (c := c) HA.out k hlt
      have hpok := smP_ok k hlt
      obtain ⟨z0, z1⟩ := sm_cells (hk.heap HBT.out (by simp)) k hlt
      obtain ⟨s, hs⟩ : ∃ s, smS k = s := ⟨_, rfl⟩
      obtain ⟨x, hx⟩ : ∃ x, smP k = x := ⟨_, rfl⟩
      obtain ⟨wt, hwt⟩ : ∃ wt, smW a b k = wt := ⟨_, rfl⟩
      rw [hs] at hread z0
      rw [hx] at hread hval hcode hpok
      rw [hwt] at hval z1
      have hkT := hk.alloc (.cells #[.string s, .bool wt] 46 (0, 0))
      have HRd := Lib.hid (read_any s (wr.alloc (.cells #[.string s, .bool wt] 46 (0, 0))) (HG.out.keep (hk3.then hkT)))
      rw [hread] at HRd
      have hb9 := heap_alloc_new wr (.cells #[.string s, .bool wt] 46 (0, 0))
      have HH := fun v vn vl w hG hA hn hl => Lib.hid (holds_any x (evSum a b c) [] [] v vn vl w hG hpok hA hn hl)
      rw [hval, hcode] at HH
      clear hread hval hcode hs hx hwt
      go_wp2_with fail
      refine HRd.out.mono ?_
      rintro e w5 ⟨hro, hk5⟩
      obtain ⟨ao, q, cp, rfl, hq, hown⟩ := hro.ok_form
      have hb9 := alloc_old (hk5.heap hb9 (by simp)) (.cells #[.int .i64 0, .int .i64 0] 49 (0, 0))
      have hkF := (hkT.then hk5).alloc (.cells #[.int .i64 0, .int .i64 0] 49 (0, 0))
      have hA := (own_parts hown hq).keep ((Keeps.refl [] w5).alloc (.cells #[.int .i64 0, .int .i64 0] 49 (0, 0)))
      have hev := ev_block (e := evSum a b c) (hkF.heap HB7.out (by simp))
      obtain ⟨e0, e1, e2, e3, e4, e5, e6⟩ := hev
      simp only [evSum] at e0 e1 e2 e3 e4 e5 e6
      have HHo := HH _ (.slice none 0 0) (.slice none 0 0) _ (HG.out.keep (hk3.then hkF)) hA ⟨none, 0, rfl, fun _ => ⟨rfl, rfl⟩, fun h => absurd rfl h⟩ ⟨none, 0, rfl, fun _ => ⟨rfl, rfl⟩, fun h => absurd rfl h⟩
      simp only [evSum] at HHo
      have HB9 := Lib.hid hb9
      clear HH HRd hro hown hA hq z0 z1
      go_wp2_with fail
      refine HHo.out.mono ?_
      rintro e w7 ⟨rfl, hk7⟩
      have hb9 := hk7.heap HB9.out (by simp)
      obtain ⟨y0, y1, _, _⟩ := fault_block hb9
      have d9 : (wt != wt) = false := by simp
      go_wp2_with fail
      exact ⟨⟨k + 1, by omega, by simp, hkF.then hk7⟩, by simp only [intOf]; omega⟩
    · have hke : k = 9 := by omega
      have d1 : decide ((k : Int) < 9) = false := by simp; omega
      go_wp2_with fail
      go_returns
      exact ⟨rfl, hk3.then hk⟩

end Go.Proofs.YtefcmijobbgpbaaGreatDoor
