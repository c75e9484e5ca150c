/- The sums of ExprSums, read and reckoned. Conditions: those of each theorem. -/
import Derived.Test.YtefcmijobbgpbaaGreatDoorExLL
import Derived.Test.YtefcmijobbgpbaaGreatDoorExBB
namespace Go.Proofs.YtefcmijobbgpbaaGreatDoor
open Go.RowKit

def evSum (a b c : Int) : EvR := ⟨⟨#[107]⟩, ⟨#[116]⟩, a, b, c, wrap64 (a + b), ⟨#[]⟩⟩
def sm0 : ByteArray := ⟨#[110, 48, 32, 43, 32, 110, 49, 32, 61, 61, 32, 110, 51]⟩
def smP0 : List PartR := [opP 9, opP 4, fieldP ⟨#[]⟩ 0, fieldP ⟨#[]⟩ 1, fieldP ⟨#[]⟩ 3]
theorem sm0_read : readM sm0 = .ok smP0 := by kernel_rfl
def sm1 : ByteArray := ⟨#[110, 49, 32, 43, 32, 110, 48, 32, 61, 61, 32, 110, 48, 32, 43, 32, 110, 49]⟩
def smP1 : List PartR := [opP 9, opP 4, fieldP ⟨#[]⟩ 1, fieldP ⟨#[]⟩ 0, opP 4, fieldP ⟨#[]⟩ 0, fieldP ⟨#[]⟩ 1]
theorem sm1_read : readM sm1 = .ok smP1 := by kernel_rfl
def sm2 : ByteArray := ⟨#[110, 48, 32, 42, 32, 110, 49, 32, 61, 61, 32, 110, 49, 32, 42, 32, 110, 48]⟩
def smP2 : List PartR := [opP 9, opP 6, fieldP ⟨#[]⟩ 0, fieldP ⟨#[]⟩ 1, opP 6, fieldP ⟨#[]⟩ 1, fieldP ⟨#[]⟩ 0]
theorem sm2_read : readM sm2 = .ok smP2 := by kernel_rfl
def sm3 : ByteArray := ⟨#[110, 48, 32, 45, 32, 110, 49, 32, 43, 32, 110, 49, 32, 61, 61, 32, 110, 48]⟩
def smP3 : List PartR := [opP 9, opP 4, opP 5, fieldP ⟨#[]⟩ 0, fieldP ⟨#[]⟩ 1, fieldP ⟨#[]⟩ 1, fieldP ⟨#[]⟩ 0]
theorem sm3_read : readM sm3 = .ok smP3 := by kernel_rfl
def sm4 : ByteArray := ⟨#[110, 48, 32, 42, 32, 40, 110, 49, 32, 43, 32, 110, 50, 41, 32, 61, 61, 32, 110, 48, 32, 42, 32, 110, 49, 32, 43, 32, 110, 48, 32, 42, 32, 110, 50]⟩
def smP4 : List PartR := [opP 9, opP 6, fieldP ⟨#[]⟩ 0, opP 4, fieldP ⟨#[]⟩ 1, fieldP ⟨#[]⟩ 2, opP 4, opP 6, fieldP ⟨#[]⟩ 0, fieldP ⟨#[]⟩ 1, opP 6, fieldP ⟨#[]⟩ 0, fieldP ⟨#[]⟩ 2]
theorem sm4_read : readM sm4 = .ok smP4 := by kernel_rfl
def sm5 : ByteArray := ⟨#[110, 48, 32, 60, 32, 110, 49, 32, 111, 114, 32, 110, 49, 32, 60, 61, 32, 110, 48]⟩
def smP5 : List PartR := [opP 12, opP 7, fieldP ⟨#[]⟩ 0, fieldP ⟨#[]⟩ 1, opP 8, fieldP ⟨#[]⟩ 1, fieldP ⟨#[]⟩ 0]
theorem sm5_read : readM sm5 = .ok smP5 := by kernel_rfl
def sm6 : ByteArray := ⟨#[110, 48, 32, 60, 32, 110, 49, 32, 97, 110, 100, 32, 110, 49, 32, 60, 61, 32, 110, 48]⟩
def smP6 : List PartR := [opP 11, opP 7, fieldP ⟨#[]⟩ 0, fieldP ⟨#[]⟩ 1, opP 8, fieldP ⟨#[]⟩ 1, fieldP ⟨#[]⟩ 0]
theorem sm6_read : readM sm6 = .ok smP6 := by kernel_rfl
def sm7 : ByteArray := ⟨#[110, 48, 32, 61, 61, 32, 110, 49]⟩
def smP7 : List PartR := [opP 9, fieldP ⟨#[]⟩ 0, fieldP ⟨#[]⟩ 1]
theorem sm7_read : readM sm7 = .ok smP7 := by kernel_rfl
def sm8 : ByteArray := ⟨#[110, 111, 116, 32, 110, 48, 32, 33, 61, 32, 110, 49]⟩
def smP8 : List PartR := [opP 13, opP 10, fieldP ⟨#[]⟩ 0, fieldP ⟨#[]⟩ 1]
theorem sm8_read : readM sm8 = .ok smP8 := by kernel_rfl
theorem sm0_form (a b c : Int) : holdsB smP0 (evSum a b c) [] [] = decide (wrap64 (a + b) = wrap64 (a + b) ∧ ([] : List UInt8) = [] ∧ false = false) := by kernel_rfl
theorem sm0_code : holdsC smP0 [] [] = 0 := by kernel_rfl
theorem sm1_form (a b c : Int) : holdsB smP1 (evSum a b c) [] [] = decide (wrap64 (b + a) = wrap64 (a + b) ∧ ([] : List UInt8) = [] ∧ false = false) := by kernel_rfl
theorem sm1_code : holdsC smP1 [] [] = 0 := by kernel_rfl
theorem sm2_form (a b c : Int) : holdsB smP2 (evSum a b c) [] [] = decide (wrap64 (a * b) = wrap64 (b * a) ∧ ([] : List UInt8) = [] ∧ false = false) := by kernel_rfl
theorem sm2_code : holdsC smP2 [] [] = 0 := by kernel_rfl
theorem sm3_form (a b c : Int) : holdsB smP3 (evSum a b c) [] [] = decide (wrap64 (wrap64 (a - b) + b) = a ∧ ([] : List UInt8) = [] ∧ false = false) := by kernel_rfl
theorem sm3_code : holdsC smP3 [] [] = 0 := by kernel_rfl
theorem sm4_form (a b c : Int) : holdsB smP4 (evSum a b c) [] [] = decide (wrap64 (a * wrap64 (b + c)) = wrap64 (wrap64 (a * b) + wrap64 (a * c)) ∧ ([] : List UInt8) = [] ∧ false = false) := by kernel_rfl
theorem sm4_code : holdsC smP4 [] [] = 0 := by kernel_rfl
theorem sm5_form (a b c : Int) : holdsB smP5 (evSum a b c) [] [] = (decide (a < b) || decide (b ≤ a)) := by kernel_rfl
theorem sm5_code : holdsC smP5 [] [] = 0 := by kernel_rfl
theorem sm6_form (a b c : Int) : holdsB smP6 (evSum a b c) [] [] = (decide (a < b) && decide (b ≤ a)) := by kernel_rfl
theorem sm6_code : holdsC smP6 [] [] = 0 := by kernel_rfl
theorem sm7_form (a b c : Int) : holdsB smP7 (evSum a b c) [] [] = decide (a = b ∧ ([] : List UInt8) = [] ∧ false = false) := by kernel_rfl
theorem sm7_code : holdsC smP7 [] [] = 0 := by kernel_rfl
theorem sm8_form (a b c : Int) : holdsB smP8 (evSum a b c) [] [] = (!(!(decide (a = b ∧ ([] : List UInt8) = [] ∧ false = false)))) := by kernel_rfl
theorem sm8_code : holdsC smP8 [] [] = 0 := by kernel_rfl

theorem wrap64_by {x y q : Int} (h : x - y = 18446744073709551616 * q) : wrap64 x = wrap64 y := by unfold wrap64; omega
theorem wrap64_less (n : Int) : wrap64 n = n - 18446744073709551616 * ((n + 9223372036854775808) / 18446744073709551616) := by unfold wrap64; omega

theorem wrap64_dist (a b c : Int) : wrap64 (a * wrap64 (b + c)) = wrap64 (wrap64 (a * b) + wrap64 (a * c)) := by
  rw [wrap64_less (b + c), wrap64_less (a * b), wrap64_less (a * c)]
  generalize (b + c + 9223372036854775808) / 18446744073709551616 = k1
  generalize (a * b + 9223372036854775808) / 18446744073709551616 = k2
  generalize (a * c + 9223372036854775808) / 18446744073709551616 = k3
  refine wrap64_by (q := k2 + k3 - a * k1) ?_
  rw [Int.mul_sub, Int.mul_add, Int.mul_sub, Int.mul_add]
  have e : a * (18446744073709551616 * k1) = 18446744073709551616 * (a * k1) := by rw [← Int.mul_assoc, Int.mul_comm a, Int.mul_assoc]
  rw [e]
  omega

theorem wrap64_back {a b : Int} (ha : -9223372036854775808 ≤ a ∧ a ≤ 9223372036854775807) : wrap64 (wrap64 (a - b) + b) = a := by unfold wrap64; omega

/-- The nine, and what is wanted. -/
def smS (k : Nat) : ByteArray := [sm0, sm1, sm2, sm3, sm4, sm5, sm6, sm7, sm8].getD k ⟨#[]⟩
def smP (k : Nat) : List PartR := [smP0, smP1, smP2, smP3, smP4, smP5, smP6, smP7, smP8].getD k []
def smW (a b : Int) (k : Nat) : Bool := [true, true, true, true, true, true, false, decide (a = b), decide (a = b)].getD k false

theorem sm_any {a b c : Int} (ha : -9223372036854775808 ≤ a ∧ a ≤ 9223372036854775807) (k : Nat) (hk : k < 9) : readM (smS k) = .ok (smP k) ∧ holdsB (smP k) (evSum a b c) [] [] = smW a b k ∧ holdsC (smP k) [] [] = 0 := by
  have hc : k = 0 ∨ k = 1 ∨ k = 2 ∨ k = 3 ∨ k = 4 ∨ k = 5 ∨ k = 6 ∨ k = 7 ∨ k = 8 := by omega
  rcases hc with rfl | rfl | rfl | rfl | rfl | rfl | rfl | rfl | rfl
  · exact ⟨sm0_read, (sm0_form a b c).trans (by simp [smW]), sm0_code⟩
  · exact ⟨sm1_read, (sm1_form a b c).trans (by simp [smW, Int.add_comm]), sm1_code⟩
  · exact ⟨sm2_read, (sm2_form a b c).trans (by simp [smW, Int.mul_comm]), sm2_code⟩
  · exact ⟨sm3_read, (sm3_form a b c).trans (by rw [wrap64_back ha]; simp [smW]), sm3_code⟩
  · exact ⟨sm4_read, (sm4_form a b c).trans (by rw [wrap64_dist]; simp [smW]), sm4_code⟩
  · refine ⟨sm5_read, (sm5_form a b c).trans ?_, sm5_code⟩
    by_cases h : a < b
    · simp [smW, h]
    · simp [smW, show b ≤ a by omega]
  · refine ⟨sm6_read, (sm6_form a b c).trans ?_, sm6_code⟩
    by_cases h : a < b
    · simp [smW, show ¬ b ≤ a by omega]
    · simp [smW, h]
  · exact ⟨sm7_read, (sm7_form a b c).trans (by simp [smW]), sm7_code⟩
  · exact ⟨sm8_read, (sm8_form a b c).trans (by simp [smW]), sm8_code⟩

end Go.Proofs.YtefcmijobbgpbaaGreatDoor
