/- Contract of the reference's text. Conditions: those of each theorem. -/
import Derived.Test.YtfoeadiejcheiaaDoorTokF
namespace Go.Proofs.YtfoeadiejcheiaaDoor
open Go.RowKit

/-- What the reference's text answers. -/
def refTextV (s : ByteArray) (at_ : Nat) : Value :=
  if ((s.data.toList.drop (at_ + 1)).drop (spanN inText (s.data.toList.drop (at_ + 1)))).head? = some 39 ∧ spanN inText (s.data.toList.drop (at_ + 1)) ≤ 256 then
    .tuple #[tokV 3 (s.extract (at_ + 1) (at_ + 1 + spanN inText (s.data.toList.drop (at_ + 1)))) 0 at_, .int .i64 ((at_ + (spanN inText (s.data.toList.drop (at_ + 1)) + 2) : Nat) : Int), .bool true]
  else .tuple #[tokV 0 ⟨#[]⟩ 0 0, .int .i64 0, .bool false]

set_option maxHeartbeats 1000000 in
set_option maxRecDepth 100000 in
theorem refText_any (s : ByteArray) (at_ : Nat) (w : World) (hat : at_ < s.size) (hs : s.size ≤ 4611686018427387904) :
    Calls Tryd.prog 34 #[.string s, .int .i64 (at_ : Int)] w fun e w' => e = .returned (refTextV s at_) ∧ Keeps [] w w' := by
  have hk0 := Keeps.refl [] w
  have hsz : s.data.toList.length = s.size := rfl
  have wr0 : IntKind.i64.wrap ((at_ : Int) + 1) = (at_ : Int) + 1 := IntWalk.i64_in _ (by omega)
  go_enter Tryd.func34, Tryd.ntmps34
  go_wp2_with fail
  go_loopw [7] (fun i wr => ∃ j : Nat, at_ + 1 ≤ j ∧ j ≤ s.size ∧ i = .int .i64 j ∧ at_ + 1 + spanN inText (s.data.toList.drop (at_ + 1)) = j + spanN inText (s.data.toList.drop j) ∧ wr = w.alloc tok0) (fun i _ => s.size - (intOf i).toNat)
  case atStart => exact ⟨at_ + 1, Nat.le_refl _, hat, by simp, rfl, rfl⟩
  case round =>
    obtain ⟨j, hj1, hj2, rfl, he, rfl⟩ := hrel
    unfold tok0
    by_cases hlt : j < s.size
    · have d1 : decide ((j : Int) < (s.size : Int)) = true := by simp; omega
      have b0 : (0 : Int) ≤ (j : Int) := by omega
      have b1 : (j : Int) < (s.size : Int) := by omega
      have hsp := span_at (p := inText) (l := s.data.toList) (j := j) (by rw [hsz]; exact hlt)
      have hjc : s.data.toList[j] = s[j] := rfl
      rw [hjc] at hsp
      clear hjc
      have HE := Lib.hid he
      clear he hsz
      have wr1 : IntKind.i64.wrap ((j : Int) + 1) = (j : Int) + 1 := IntWalk.i64_in _ (by omega)
      have LG : s[j].toNat = 39 → j - at_ - 1 ≤ 256 → refTextV s at_ = .tuple #[tokV 3 (s.extract (at_ + 1) j) 0 at_, .int .i64 ((j : Int) + 1), .bool true] := by
        intro h39 h256
        have hc : s[j] = 39 := UInt8.toNat_inj.1 h39
        have hin : inText s[j] = false := by rw [hc]; decide
        rw [hin, if_neg (by simp)] at hsp
        have he : at_ + 1 + spanN inText (s.data.toList.drop (at_ + 1)) = j := by rw [HE.out, hsp]; rfl
        have hd : ((s.data.toList.drop (at_ + 1)).drop (spanN inText (s.data.toList.drop (at_ + 1)))).head? = some 39 := by
          rw [List.drop_drop, he, List.head?_drop, List.getElem?_eq_getElem (by exact hlt)]
          exact congrArg some hc
        unfold refTextV
        rw [if_pos ⟨hd, by omega⟩, he]
        have e2 : ((at_ + (spanN inText (s.data.toList.drop (at_ + 1)) + 2) : Nat) : Int) = (j : Int) + 1 := by omega
        rw [e2]
      have LB : (s[j].toNat = 10 ∨ (s[j].toNat = 39 ∧ 256 < (j : Int) - at_ - 1)) → refTextV s at_ = .tuple #[tokV 0 ⟨#[]⟩ 0 0, .int .i64 0, .bool false] := by
        intro hor
        have hin : inText s[j] = false := by
          rcases hor with h | ⟨h, _⟩
          · have hc : s[j] = 10 := UInt8.toNat_inj.1 h
            rw [hc]; decide
          · have hc : s[j] = 39 := UInt8.toNat_inj.1 h
            rw [hc]; decide
        rw [hin, if_neg (by simp)] at hsp
        have he : at_ + 1 + spanN inText (s.data.toList.drop (at_ + 1)) = j := by rw [HE.out, hsp]; rfl
        unfold refTextV
        rw [if_neg]
        rintro ⟨h1, h2⟩
        rcases hor with h | ⟨_, h⟩
        · rw [List.drop_drop, he, List.head?_drop, List.getElem?_eq_getElem (by exact hlt)] at h1
          have h3 : s[j] = 39 := Option.some.inj h1
          rw [h3] at h
          exact absurd h (by decide)
        · omega
      have HS : s[j].toNat ≠ 39 → s[j].toNat ≠ 10 → at_ + 1 + spanN inText (s.data.toList.drop (at_ + 1)) = j + 1 + spanN inText (s.data.toList.drop (j + 1)) := by
        intro h1 h2
        have hin : inText s[j] = true := by
          simp only [inText, Bool.not_eq_true', Bool.or_eq_false_iff, beq_eq_false_iff_ne]
          exact ⟨fun e => h1 (by rw [e]; rfl), fun e => h2 (by rw [e]; rfl)⟩
        rw [hin, if_pos rfl] at hsp
        rw [HE.out, hsp]
        omega
      have LG := Lib.hid LG
      have LB := Lib.hid LB
      have HS := Lib.hid HS
      clear hsp HE
      have wr2 : IntKind.i64.wrap ((j : Int) - at_) = (j : Int) - at_ := IntWalk.i64_in _ (by omega)
      have wr3 : IntKind.i64.wrap ((j : Int) - at_ - 1) = (j : Int) - at_ - 1 := IntWalk.i64_in _ (by omega)
      go_wp2_with fail
      all_goals try simp only [beq_iff_eq, bne_iff_ne, ne_eq, beq_eq_false_iff_ne, bne_eq_false_iff_eq] at *
      all_goals first
        | (go_returns; refine ⟨?_, hk0.alloc _⟩; first | (rw [LB.out (by omega)]; rfl) | (rw [LG.out (by omega) (by omega)]; rfl))
        | (refine ⟨⟨j + 1, by omega, by omega, by simp, HS.out (by omega) (by omega), trivial⟩, by simp only [intOf]; omega⟩)
    · have LB : refTextV s at_ = .tuple #[tokV 0 ⟨#[]⟩ 0 0, .int .i64 0, .bool false] := by
        have h0 : spanN inText (s.data.toList.drop j) = 0 := by
          rw [List.drop_eq_nil_of_le (by omega)]
          rfl
        rw [h0, Nat.add_zero] at he
        unfold refTextV
        rw [if_neg]
        rintro ⟨h1, h2⟩
        rw [List.drop_drop, he, List.drop_eq_nil_of_le (by omega)] at h1
        cases h1
      have d1 : decide ((j : Int) < (s.size : Int)) = false := by simp; omega
      have d2 : ((j : Int) == (s.size : Int)) = true := by simp; omega
      have LB := Lib.hid LB
      clear he
      go_wp2_with fail
      go_returns
      exact ⟨by rw [LB.out]; rfl, hk0.alloc _⟩

end Go.Proofs.YtfoeadiejcheiaaDoor
