/- same, of the same parts. Conditions: those of each theorem. -/
import Derived.Test.YtefcmijobbgpbaaGreatDoorExC
namespace Go.Proofs.YtefcmijobbgpbaaGreatDoor
open Go.RowKit

set_option maxHeartbeats 4000000 in
set_option maxRecDepth 100000 in
theorem same_parts (l : List PartR) (v v' : Value) (w : World) (h : ArgPart w v l) (h' : ArgPart w v' l) (hl : l.length ≤ 9223372036854775807) :
    Calls Tryz.prog 16 #[v, v'] w fun e w' => e = .returned (.bool true) ∧ Keeps [] w w' := by
  obtain ⟨ao, cap, rfl, _, h2⟩ := h
  obtain ⟨ao', cap', rfl, _, h2'⟩ := h'
  obtain ⟨n, hn⟩ : ∃ n, l.length = n := ⟨_, rfl⟩
  rw [hn] at hl ⊢
  have HN := Lib.hid hn
  have H2 := Lib.hid h2
  have H2' := Lib.hid h2'
  have EQ := Lib.hid run_eqIn_part
  have GD := Lib.hid part_guard
  clear hn h2 h2'
  go_enter Tryz.func16, Tryz.ntmps16
  go_wp2_with fail
  go_loopw [5] (fun i wr => ∃ k : Nat, k ≤ n ∧ i = .int .i64 k ∧ Keeps [] w wr) (fun i _ => n - (intOf i).toNat)
  case atStart => exact ⟨0, Nat.zero_le _, rfl, Keeps.refl [] w⟩
  case round =>
    obtain ⟨k, hkn, rfl, hk⟩ := hrel
    by_cases hlt : k < n
    · have d1 : decide ((k : Int) < (n : Int)) = true := by simp; omega
      obtain ⟨p, hp⟩ : ∃ p, l[k]? = some p := ⟨l[k]'(by rw [HN.out]; omega), List.getElem?_eq_getElem _⟩
      have hne : l ≠ [] := by intro e; rw [e] at hp; cases hp
      obtain ⟨bk, o, rfl, hsl, hcl, hcr⟩ := H2.out hne
      obtain ⟨bk', o', rfl, hsl', hcl', hcr'⟩ := H2'.out hne
      obtain ⟨c0, c1, c2, c3, c4⟩ := hsl k p hp
      obtain ⟨f0, f1, f2, f3, f4⟩ := hsl' k p hp
      have c0 := hk.cell c0 (by simp)
      have c1 := hk.cell c1 (by simp)
      have c2 := hk.cell c2 (by simp)
      have c3 := hk.cell c3 (by simp)
      have c4 := hk.cell c4 (by simp)
      have f0 := hk.cell f0 (by simp)
      have f1 := hk.cell f1 (by simp)
      have f2 := hk.cell f2 (by simp)
      have f3 := hk.cell f3 (by simp)
      have f4 := hk.cell f4 (by simp)
      have bk0 : (0 : Int) ≤ (k : Int) := by omega
      have bk1 : (k : Int) < (n : Int) := by omega
      clear hsl hsl' hp hne
      obtain ⟨kd, pn, ps, st, f⟩ := p
      simp only at c0 c1 c2 c3 c4 f0 f1 f2 f3 f4
      go_wp2_with fail
      repeat (go_quiet (fail); try go_wp2_with fail)
      exact ⟨⟨k + 1, by omega, by simp, hk.drewN _⟩, by simp only [intOf]; omega⟩
    · have hke : k = n := by omega
      have d1 : decide ((k : Int) < (n : Int)) = false := by simp; omega
      go_wp2_with fail
      go_returns
      exact ⟨rfl, hk⟩

end Go.Proofs.YtefcmijobbgpbaaGreatDoor
