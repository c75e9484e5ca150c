/- Contracts of the classes of bytes. Conditions: those of each theorem. -/
import Derived.Test.YtfoeadiejcheiaaDoorProg
import Derived.Test.YtfoeadiejcheiaaDoorBase
import Derived.ProofKit
import Derived.Test.YtfoeadiejcheiaaDoorTokM
namespace Go.Proofs.YtfoeadiejcheiaaDoor
open Go.RowKit

/-- A byte's class, as the table has it. -/
def clsI (c : UInt8) : Int := if isBlank c then 1 else if isLetter c then 2 else if isDigit c then 3 else if c == 39 then 4 else if isSign c then 5 else 0

/-- The table lies there. -/
def Tab (w : World) : Prop := ∀ i : Nat, i < 128 → w.cell? ⟨0, i, none⟩ = some (.int .u8 (clsI (UInt8.ofNat i)))

theorem Tab.keep {S : List Nat} {w w' : World} (h : Tab w) (k : Keeps S w w') (hS : 0 ∉ S) : Tab w' := fun i hi => k.cell (h i hi) hS

theorem cls_high {c : UInt8} (h : 128 ≤ c.toNat) : clsI c = 0 := by
  have : ∀ c : Fin 256, 128 ≤ c.val → clsI (UInt8.ofNat c.val) = 0 := by decide +kernel
  have h2 := this ⟨c.toNat, c.toNat_lt⟩ h
  have e : UInt8.ofNat c.toNat = c := UInt8.ofNat_toNat
  simpa [e] using h2

theorem class_any (c : UInt8) (w : World) (h : Tab w) : Calls Tryd.prog 24 #[.int .u8 (c.toNat : Int)] w fun e w' => e = .returned (.int .u8 (clsI c)) ∧ w = w' := by
  have hlt := c.toNat_lt
  by_cases hc : c.toNat < 128
  · have hcell := h c.toNat hc
    have e : UInt8.ofNat c.toNat = c := UInt8.ofNat_toNat
    rw [e] at hcell
    have d1 : decide ((c.toNat : Int) ≥ 128) = false := by simp; omega
    have d2 : decide ((128 : Int) ≤ (c.toNat : Int)) = false := by simp; omega
    have b0 : (0 : Int) ≤ (c.toNat : Int) := by omega
    have b1 : (c.toNat : Int) < 128 := by omega
    generalize clsI c = z at *
    generalize c.toNat = n at *
    clear h e
    go_enter Tryd.func24, Tryd.ntmps24
    go_wp2_with fail
    go_ret
    exact ⟨rfl, rfl⟩
  · have d1 : decide ((c.toNat : Int) ≥ 128) = true := by simp; omega
    have d2 : decide ((128 : Int) ≤ (c.toNat : Int)) = true := by simp; omega
    rw [cls_high (by omega)]
    generalize c.toNat = n at *
    clear h
    go_enter Tryd.func24, Tryd.ntmps24
    go_wp2_with fail
    go_ret
    exact ⟨rfl, rfl⟩

theorem letter_any (c : UInt8) (w : World) : Calls Tryd.prog 30 #[.int .u8 (c.toNat : Int)] w fun e w' => e = .returned (.bool (isLetter c)) ∧ w = w' := by
  have e0 : isLetter c = (decide (97 ≤ c.toNat) && decide (c.toNat ≤ 122)) := rfl
  rw [e0]
  generalize c.toNat = n
  by_cases h1 : 97 ≤ n
  · by_cases h2 : n ≤ 122
    · have d1 : decide ((97 : Int) ≤ (n : Int)) = true := by simp; omega
      have d2 : decide ((n : Int) ≤ 122) = true := by simp; omega
      have e1 : (decide (97 ≤ n) && decide (n ≤ 122)) = true := by simp [h1, h2]
      have d3 : decide ((n : Int) ≥ 97) = true := d1
      rw [e1]
      go_enter Tryd.func30, Tryd.ntmps30
      go_wp2_with fail
      go_ret
      exact ⟨rfl, rfl⟩
    · have d1 : decide ((97 : Int) ≤ (n : Int)) = true := by simp; omega
      have d2 : decide ((n : Int) ≤ 122) = false := by simp; omega
      have e1 : (decide (97 ≤ n) && decide (n ≤ 122)) = false := by simp [h1, h2]
      have d3 : decide ((n : Int) ≥ 97) = true := d1
      rw [e1]
      go_enter Tryd.func30, Tryd.ntmps30
      go_wp2_with fail
      go_ret
      exact ⟨rfl, rfl⟩
  · have d1 : decide ((97 : Int) ≤ (n : Int)) = false := by simp; omega
    have e1 : (decide (97 ≤ n) && decide (n ≤ 122)) = false := by simp [h1]
    have d3 : decide ((n : Int) ≥ 97) = false := d1
    rw [e1]
    go_enter Tryd.func30, Tryd.ntmps30
    go_wp2_with fail
    go_ret
    exact ⟨rfl, rfl⟩

theorem digit_any (c : UInt8) (w : World) : Calls Tryd.prog 32 #[.int .u8 (c.toNat : Int)] w fun e w' => e = .returned (.bool (isDigit c)) ∧ w = w' := by
  have e0 : isDigit c = (decide (48 ≤ c.toNat) && decide (c.toNat ≤ 57)) := rfl
  rw [e0]
  generalize c.toNat = n
  by_cases h1 : 48 ≤ n
  · by_cases h2 : n ≤ 57
    · have d1 : decide ((48 : Int) ≤ (n : Int)) = true := by simp; omega
      have d2 : decide ((n : Int) ≤ 57) = true := by simp; omega
      have e1 : (decide (48 ≤ n) && decide (n ≤ 57)) = true := by simp [h1, h2]
      have d3 : decide ((n : Int) ≥ 48) = true := d1
      rw [e1]
      go_enter Tryd.func32, Tryd.ntmps32
      go_wp2_with fail
      go_ret
      exact ⟨rfl, rfl⟩
    · have d1 : decide ((48 : Int) ≤ (n : Int)) = true := by simp; omega
      have d2 : decide ((n : Int) ≤ 57) = false := by simp; omega
      have e1 : (decide (48 ≤ n) && decide (n ≤ 57)) = false := by simp [h1, h2]
      have d3 : decide ((n : Int) ≥ 48) = true := d1
      rw [e1]
      go_enter Tryd.func32, Tryd.ntmps32
      go_wp2_with fail
      go_ret
      exact ⟨rfl, rfl⟩
  · have d1 : decide ((48 : Int) ≤ (n : Int)) = false := by simp; omega
    have e1 : (decide (48 ≤ n) && decide (n ≤ 57)) = false := by simp [h1]
    have d3 : decide ((n : Int) ≥ 48) = false := d1
    rw [e1]
    go_enter Tryd.func32, Tryd.ntmps32
    go_wp2_with fail
    go_ret
    exact ⟨rfl, rfl⟩

end Go.Proofs.YtfoeadiejcheiaaDoor
