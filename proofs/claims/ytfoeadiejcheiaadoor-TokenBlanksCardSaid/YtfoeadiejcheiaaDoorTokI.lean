/- Contract of the reference's number. Conditions: those of each theorem. -/
import Derived.Test.YtfoeadiejcheiaaDoorTokH
namespace Go.Proofs.YtfoeadiejcheiaaDoor
open Go.RowKit


theorem take_snoc {l : List UInt8} {a j : Nat} (h : a ≤ j) (hj : j < l.length) : (l.drop a).take (j + 1 - a) = (l.drop a).take (j - a) ++ [l[j]] := by
  have e : j + 1 - a = (j - a) + 1 := by omega
  have hlt : j - a < (l.drop a).length := by rw [List.length_drop]; omega
  rw [e, List.take_succ_eq_append_getElem hlt]
  congr 2
  rw [List.getElem_drop]
  congr 1
  omega

set_option maxHeartbeats 2000000 in
set_option maxRecDepth 100000 in
theorem refNumber_any (s : ByteArray) (at_ : Nat) (w : World) (hat : at_ < s.size) (_hdg : isDigit s[at_] = true) (hs : s.size ≤ 4611686018427387904) :
    Calls Tryd.prog 33 #[.string s, .int .i64 (at_ : Int)] w fun e w' => (∃ N : Int, e = .returned (.tuple #[tokV 2 ⟨#[]⟩ N at_, .int .i64 ((at_ + spanN isDigit (s.data.toList.drop at_) : Nat) : Int), .bool (decide (numVal ((s.data.toList.drop at_).take (spanN isDigit (s.data.toList.drop at_))) ≤ 9223372036854775807) && (decide (s[at_] ≠ 48) || decide (spanN isDigit (s.data.toList.drop at_) = 1)))]) ∧
      (numVal ((s.data.toList.drop at_).take (spanN isDigit (s.data.toList.drop at_))) ≤ 9223372036854775807 → N = (numVal ((s.data.toList.drop at_).take (spanN isDigit (s.data.toList.drop at_))) : Nat))) ∧ Keeps [] w w' := by
  have hk0 := Keeps.refl [] w
  have hsz : s.data.toList.length = s.size := rfl
  have b0 : (0 : Int) ≤ (at_ : Int) := by omega
  have b1 : (at_ : Int) < (s.size : Int) := by omega
  go_enter Tryd.func33, Tryd.ntmps33
  go_wp2_with fail
  go_loopw [7, 8, 9] (fun i n ok wr => ∃ (j N : Nat) (O : Bool), at_ ≤ j ∧ j ≤ s.size ∧ i = .int .i64 j ∧ n = .int .u64 N ∧ ok = .bool O ∧ at_ + spanN isDigit (s.data.toList.drop at_) = j + spanN isDigit (s.data.toList.drop j) ∧ N ≤ 9223372036854775807 ∧ Hid (O = decide (numVal ((s.data.toList.drop at_).take (j - at_)) ≤ 9223372036854775807) ∧ (O = true → N = numVal ((s.data.toList.drop at_).take (j - at_)))) ∧ wr = w.alloc tok0) (fun i _ _ _ => s.size - (intOf i).toNat)
  case atStart =>
    refine ⟨at_, 0, true, Nat.le_refl _, by omega, rfl, rfl, rfl, rfl, by decide, Lib.hid ?_, rfl⟩
    rw [Nat.sub_self, List.take_zero]
    exact ⟨rfl, fun _ => rfl⟩
  case round =>
    obtain ⟨j, N, O, hj1, hj2, rfl, rfl, rfl, he, hN, hO, rfl⟩ := hrel
    unfold tok0
    have wN : wrap64 (N : Int) = (N : Int) := IntWalk.wrap64_in _ ⟨by omega, by have : N ≤ 9223372036854775807 := hN; omega⟩
    have fin : at_ + spanN isDigit (s.data.toList.drop at_) = j → Hid ((∀ b : Bool, b = (O && (decide (s[at_].toNat ≠ 48) || decide (j = at_ + 1))) → Ending.returned (.tuple #[.agg #[.int .i64 2, .string ⟨#[]⟩, .int .i64 N, .int .i64 at_], .int .i64 j, .bool b]) =
        .returned (.tuple #[tokV 2 ⟨#[]⟩ N at_, .int .i64 ((at_ + spanN isDigit (s.data.toList.drop at_) : Nat) : Int), .bool (decide (numVal ((s.data.toList.drop at_).take (spanN isDigit (s.data.toList.drop at_))) ≤ 9223372036854775807) && (decide (s[at_] ≠ 48) || decide (spanN isDigit (s.data.toList.drop at_) = 1)))])) ∧
        (numVal ((s.data.toList.drop at_).take (spanN isDigit (s.data.toList.drop at_))) ≤ 9223372036854775807 → (N : Int) = (numVal ((s.data.toList.drop at_).take (spanN isDigit (s.data.toList.drop at_))) : Nat))) := by
      intro hend
      have e1 : spanN isDigit (s.data.toList.drop at_) = j - at_ := by omega
      obtain ⟨o1, o2⟩ := hO.out
      refine Lib.hid ⟨?_, ?_⟩
      · rintro b rfl
        rw [hend, e1, ← o1]
        have e2 : decide (s[at_].toNat ≠ 48) = decide (s[at_] ≠ 48) := decide_eq_decide.2 (not_congr ⟨fun h => UInt8.toNat_inj.1 h, fun h => by rw [h]; rfl⟩)
        have e3 : decide (j = at_ + 1) = decide (j - at_ = 1) := decide_eq_decide.2 (by omega)
        rw [e2, e3]
        rfl
      · rw [e1]
        intro h
        rw [o2 (by rw [o1]; simp [h])]
    by_cases hlt : j < s.size
    · have d1 : decide ((j : Int) < (s.size : Int)) = true := by simp; omega
      have c0 : (0 : Int) ≤ (j : Int) := by omega
      have c1 : (j : Int) < (s.size : Int) := by omega
      have hsp := span_at (p := isDigit) (l := s.data.toList) (j := j) (by rw [hsz]; exact hlt)
      have hjc : s.data.toList[j] = s[j] := rfl
      have htk := take_snoc hj1 (by rw [hsz]; exact hlt)
      rw [hjc] at hsp htk
      clear hjc
      have HE := Lib.hid he
      have HT := Lib.hid htk
      clear he htk hsz
      have HD := fun w => digit_any s[j] w
      cases h1 : isDigit s[j]
      all_goals
        rw [h1] at hsp HD
        have HS := Lib.hid hsp
        have HD := fun w => Lib.hid (HD w)
        clear hsp
      · have hend : at_ + spanN isDigit (s.data.toList.drop at_) = j := by rw [HE.out, HS.out]; rfl
        have hF := fin hend
        clear HE HS HT fin
        go_wp2_with (go_at_call 32; refine (HD _).out.mono ?_; rintro e w' ⟨rfl, rfl⟩)
        all_goals
          go_returns
          exact ⟨⟨N, hF.out.1 _ (by clear hF; rw [Bool.eq_iff_iff]; first | (simp_all; done) | (simp_all; omega)), hF.out.2⟩, hk0.alloc _⟩
      · have hdv := digit_val h1
        have wr1 : IntKind.i64.wrap ((j : Int) + 1) = (j : Int) + 1 := IntWalk.i64_in _ (by omega)
        have hnx : at_ + spanN isDigit (s.data.toList.drop at_) = j + 1 + spanN isDigit (s.data.toList.drop (j + 1)) := by rw [HE.out, HS.out]; simp; omega
        have hnx := Lib.hid hnx
        clear h1 fin HE HS
        go_wp2_with (go_at_call 32; refine (HD _).out.mono ?_; rintro e w' ⟨rfl, rfl⟩)
        · rename_i hO1 hle
          have hv := hO.out.2 hO1
          have hle2 : N * 10 + (s[j].toNat - 48) ≤ 9223372036854775807 := by omega
          refine ⟨⟨j + 1, N * 10 + (s[j].toNat - 48), true, by omega, by omega, by simp, ?_, by simp [hle], hnx.out, hle2, Lib.hid ?_, trivial⟩, by simp only [intOf]; omega⟩
          · congr 1; omega
          · rw [HT.out, numVal_snoc, ← hv]
            exact ⟨by simp [hle2], fun _ => rfl⟩
        · rename_i hO1 hle
          have hv := hO.out.2 hO1
          have hle2 : ¬ (N * 10 + (s[j].toNat - 48) ≤ 9223372036854775807) := by omega
          refine ⟨⟨j + 1, N, false, by omega, by omega, by simp, rfl, by simp; omega, hnx.out, hN, Lib.hid ?_, trivial⟩, by simp only [intOf]; omega⟩
          rw [HT.out, numVal_snoc, ← hv]
          exact ⟨by simp [hle2], fun h => by cases h⟩
        · rename_i hO1
          have hv := hO.out.1
          have hO2 : O = false := by simpa using hO1
          rw [hO2] at hv
          have hle2 : ¬ (numVal ((s.data.toList.drop at_).take (j - at_)) ≤ 9223372036854775807) := by simpa using hv
          refine ⟨⟨j + 1, N, false, by omega, by omega, by simp, rfl, rfl, hnx.out, hN, Lib.hid ?_, trivial⟩, by simp only [intOf]; omega⟩
          rw [HT.out, numVal_snoc]
          have hle3 : ¬ (numVal ((s.data.toList.drop at_).take (j - at_)) * 10 + (s[j].toNat - 48) ≤ 9223372036854775807) := by omega
          exact ⟨by simp only [hle3, decide_false], fun h => by cases h⟩
    · have h0 : spanN isDigit (s.data.toList.drop j) = 0 := by
        rw [List.drop_eq_nil_of_le (by omega)]
        rfl
      have hend : at_ + spanN isDigit (s.data.toList.drop at_) = j := by rw [he, h0]; rfl
      have hF := fin hend
      have d1 : decide ((j : Int) < (s.size : Int)) = false := by simp; omega
      clear he h0 fin
      go_wp2_with fail
      all_goals
        go_returns
        exact ⟨⟨N, hF.out.1 _ (by clear hF; rw [Bool.eq_iff_iff]; first | (simp_all; done) | (simp_all; omega)), hF.out.2⟩, hk0.alloc _⟩

end Go.Proofs.YtfoeadiejcheiaaDoor
