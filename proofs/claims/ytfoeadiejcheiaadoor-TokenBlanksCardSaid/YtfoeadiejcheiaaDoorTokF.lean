/- Contracts of the reference's word, number, text and sign. Conditions: those of each theorem. -/
import Derived.Test.YtfoeadiejcheiaaDoorTokE
import Derived.Handy
namespace Go.Proofs.YtfoeadiejcheiaaDoor
open Go.RowKit

/-- A token as the program lays it. -/
def tokV (kind : Int) (s : ByteArray) (n at_ : Int) : Value := .agg #[.int .i64 kind, .string s, .int .i64 n, .int .i64 at_]

/-- A new block, not written: the zero token. -/
def tok0 : Obj := .cells #[.int .i64 0, .string (⟨#[]⟩ : ByteArray), .int .i64 0, .int .i64 0] 34 (0, 0)

theorem alnum_or (c : UInt8) : isAlnum c = (isLetter c || isDigit c) := rfl

set_option maxRecDepth 100000 in
theorem refWord_any (s : ByteArray) (at_ : Nat) (w : World) (hat : at_ ≤ s.size) (hs : s.size ≤ 4611686018427387904) :
    Calls Tryd.prog 31 #[.string s, .int .i64 (at_ : Int)] w fun e w' => e = .returned (.tuple #[tokV 1 (s.extract at_ (at_ + spanN isAlnum (s.data.toList.drop at_))) 0 at_, .int .i64 ((at_ + spanN isAlnum (s.data.toList.drop at_) : Nat) : Int), .bool (decide (spanN isAlnum (s.data.toList.drop at_) ≤ 32))]) ∧ Keeps [] w w' := by
  have hk0 := Keeps.refl [] w
  have hsz : s.data.toList.length = s.size := rfl
  go_enter Tryd.func31, Tryd.ntmps31
  go_wp2_with fail
  go_loopw [7] (fun i wr => ∃ j : Nat, at_ ≤ j ∧ j ≤ s.size ∧ i = .int .i64 j ∧ at_ + spanN isAlnum (s.data.toList.drop at_) = j + spanN isAlnum (s.data.toList.drop j) ∧ wr = w.alloc tok0) (fun i _ => s.size - (intOf i).toNat)
  case atStart => exact ⟨at_, Nat.le_refl _, hat, rfl, rfl, rfl⟩
  case round =>
    obtain ⟨j, hj1, hj2, rfl, he, rfl⟩ := hrel
    unfold tok0
    have fin : ∀ (h0 : spanN isAlnum (s.data.toList.drop j) = 0), (0 : Int) ≤ at_ ∧ (at_ : Int) ≤ j ∧ (j : Int) ≤ s.size ∧ IntKind.i64.wrap ((j : Int) - at_) = j - at_ ∧ at_ + spanN isAlnum (s.data.toList.drop at_) = j ∧ decide ((j : Int) - at_ ≤ 32) = decide (spanN isAlnum (s.data.toList.drop at_) ≤ 32) := by
      intro h0
      refine ⟨by omega, by omega, by omega, IntWalk.i64_in _ (by omega), by omega, ?_⟩
      apply decide_eq_decide.2
      omega
    by_cases hlt : j < s.size
    · have d1 : decide ((j : Int) < (s.size : Int)) = true := by simp; omega
      have b0 : (0 : Int) ≤ (j : Int) := by omega
      have b1 : (j : Int) < (s.size : Int) := by omega
      have hsp := span_at (p := isAlnum) (l := s.data.toList) (j := j) (by rw [hsz]; exact hlt)
      have hjc : s.data.toList[j] = s[j] := rfl
      rw [hjc] at hsp
      clear hjc
      rw [alnum_or] at hsp
      have wr1 : IntKind.i64.wrap ((j : Int) + 1) = (j : Int) + 1 := IntWalk.i64_in _ (by omega)
      have HE := Lib.hid he
      clear he hsz
      cases h1 : isLetter s[j] <;> cases h2 : isDigit s[j]
      all_goals
        rw [h1, h2] at hsp
        have HL := fun w => letter_any s[j] w
        have HD := fun w => digit_any s[j] w
        rw [h1] at HL
        rw [h2] at HD
        have HL := fun w => Lib.hid (HL w)
        have HD := fun w => Lib.hid (HD w)
        clear h1 h2
      case false.false =>
        obtain ⟨f0, f1, f2, f3, f4, f5⟩ := fin hsp
        clear fin hsp
        have F4 := Lib.hid f4
        clear f4
        go_wp2_with (first | (go_at_call 30; refine (HL _).out.mono ?_; rintro e w' ⟨rfl, rfl⟩) | (go_at_call 32; refine (HD _).out.mono ?_; rintro e w' ⟨rfl, rfl⟩))
        go_returns
        exact ⟨by rw [F4.out]; rfl, hk0.alloc _⟩
      all_goals
        have HS := Lib.hid hsp
        clear hsp fin
        go_wp2_with (first | (go_at_call 30; refine (HL _).out.mono ?_; rintro e w' ⟨rfl, rfl⟩) | (go_at_call 32; refine (HD _).out.mono ?_; rintro e w' ⟨rfl, rfl⟩))
        exact ⟨⟨j + 1, by omega, by omega, by simp, by rw [HE.out, HS.out]; simp; omega, trivial⟩, by simp only [intOf]; omega⟩
    · have d1 : decide ((j : Int) < (s.size : Int)) = false := by simp; omega
      have h0 : spanN isAlnum (s.data.toList.drop j) = 0 := by
        rw [List.drop_eq_nil_of_le (by omega)]
        rfl
      obtain ⟨f0, f1, f2, f3, f4, f5⟩ := fin h0
      have F4 := Lib.hid f4
      clear f4 fin h0 he
      go_wp2_with fail
      go_returns
      exact ⟨by rw [F4.out]; rfl, hk0.alloc _⟩

end Go.Proofs.YtfoeadiejcheiaaDoor
