/- The document's may and kind. Conditions: those of each theorem. -/
import Derived.Test.YtefcmijobbgpbaaGreatDoorExWA
import Derived.Test.YtefcmijobbgpbaaGreatDoorExJ
namespace Go.Proofs.YtefcmijobbgpbaaGreatDoor
open Go.RowKit

theorem textM_wtn (s : ByteArray) : textM s = (wtn ⟨3, s, 0, 0⟩).isSome := by
  have hj : joinM [⟨3, s, 0, 0⟩] = joinCore [⟨3, s, 0, 0⟩] := jm_not (n := 0) (x := ⟨3, s, 0, 0⟩) rfl rfl (by show (3 : Int) ≠ 0; decide)
  unfold textM
  rw [hj]
  cases hw : wtn ⟨3, s, 0, 0⟩ with
  | none =>
    have : joinCore [⟨3, s, 0, 0⟩] = .error 100 := by
      unfold joinCore
      rw [if_neg (by simp)]
      simp only [wrAll, hw]
    rw [this]
    rfl
  | some a =>
    have hl : a.length ≤ 300 := by
      have h : (match lexOne (39 :: (s.data.toList ++ [39])) with
        | some (t, k) => if k = (39 :: (s.data.toList ++ [39])).length ∧ (t.kind : Int) = 3 ∧ t.s = s.data.toList ∧ (t.n : Int) = 0 then some (39 :: (s.data.toList ++ [39])) else none
        | none => none) = some a := hw
      split at h
      · rename_i t k hx
        split at h
        · rename_i hc
          have := lexOne_short hx
          rw [← Option.some.inj h, ← hc.1]
          exact this
        · cases h
      · cases h
    rw [core_all (by simp) (ws := [a]) (by simp only [wrAll, hw]), if_neg (by simp only [joinW]; omega)]
    rfl

theorem headI {s : ByteArray} (h : 0 < s.size) : headM s = decide ((97 : Int) ≤ (s[0].toNat : Int)) := by
  have hl : s.data.toList[0]'(by show 0 < s.data.toList.length; rw [Array.length_toList]; exact h) = s[0] := rfl
  unfold headM
  cases hs : s.data.toList with
  | nil =>
    have h2 : s.data.toList.length = s.size := rfl
    rw [hs] at h2
    simp at h2
    omega
  | cons c r =>
    simp only [hs, List.getElem_cons_zero] at hl
    rw [← hl]
    apply decide_eq_decide.2
    omega

theorem name_pos {s : ByteArray} (h : nameM s = true) : 0 < s.size := by
  unfold nameM at h
  simp only [Bool.and_eq_true, decide_eq_true_eq] at h
  rcases Nat.eq_zero_or_pos s.size with h0 | h0
  · exact absurd (List.eq_nil_of_length_eq_zero (by rw [Array.length_toList]; exact h0)) h.1.1
  · exact h0

theorem empty_eq (s : ByteArray) : (s.toList == []) = s.toList.isEmpty := by cases s.toList <;> rfl

theorem field_range {st : ByteArray} {f : Int} : (!(!(st.toList.isEmpty) && (!(nameM st) || (!(headM st) || keyM st)) || (decide (f < 0) || decide (5 < f)))) = (decide (0 ≤ f) && decide (f ≤ 5) && (st.toList.isEmpty || refStageM st)) := by
  have h1 : decide (f < 0) = !decide (0 ≤ f) := by by_cases h : 0 ≤ f <;> simp [h] <;> omega
  have h2 : decide (5 < f) = !decide (f ≤ 5) := by by_cases h : f ≤ 5 <;> simp [h] <;> omega
  unfold refStageM
  rw [h1, h2]
  cases st.toList.isEmpty <;> cases nameM st <;> cases headM st <;> cases keyM st <;> cases decide (0 ≤ f) <;> cases decide (f ≤ 5) <;> rfl

set_option maxHeartbeats 4000000 in
set_option maxRecDepth 100000 in
theorem may_any (p : PartR) (hp : p.ok) (w : World) :
    Calls Tryz.prog 42 #[.agg #[.int .i64 p.kind, .int .i64 p.n, .string p.s, .string p.stage, .int .i64 p.field]] w fun e w' => e = .returned (.bool (isM p)) ∧ Keeps [] w w' := by
  have hk0 := Keeps.refl [] w
  have EQ := Lib.hid run_eqIn_part
  have GD := Lib.hid part_guard
  obtain ⟨kd, n, s, st, f⟩ := p
  have HP := Lib.hid hp
  clear hp
  simp only at ⊢
  by_cases h1 : kd = 1
  · subst h1
    have hI : isM ⟨1, n, s, st, f⟩ = (decide (0 ≤ n) && decide (s.toList = []) && decide (st.toList = []) && decide (f = 0)) := by
      simp only [isM, if_pos, ByteArray.toList_eq]
    rw [hI]
    clear hI
    by_cases hn : 0 ≤ n
    · have d1 : decide (n < 0) = false := by simp; omega
      have d2 : decide (0 ≤ n) = true := by simp; omega
      rw [d2]
      go_enter Tryz.func42, Tryz.ntmps42
      go_wp2_with fail
      all_goals go_returns
      all_goals refine ⟨congrArg (fun z => Ending.returned (.bool z)) ?_, (hk0.alloc _).alloc _⟩
      all_goals simp_all
    · have d1 : decide (n < 0) = true := by simp; omega
      have d2 : decide (0 ≤ n) = false := by simp; omega
      rw [d2]
      go_enter Tryz.func42, Tryz.ntmps42
      go_wp2_with fail
      all_goals go_returns
      all_goals exact ⟨rfl, (hk0.alloc _).alloc _⟩
  · by_cases h2 : kd = 2
    · subst h2
      have hI : isM ⟨2, n, s, st, f⟩ = ((wtn ⟨3, s, 0, 0⟩).isSome && decide (n = 0) && decide (st.toList = []) && decide (f = 0)) := by
        rw [← textM_wtn]
        simp [isM, ByteArray.toList_eq]
      have HW := fun w => Lib.hid ((refWritten_any 3 0 0 s w (by omega) HP.out.2.2.1).mono fun e w' (h : WrittenOut 3 s 0 e ∧ Keeps [] w w') => show (∃ r, e = .returned (.tuple #[.string r, .bool (wtn ⟨3, s, 0, 0⟩).isSome])) ∧ Keeps [] w w' from by
        refine ⟨?_, h.2⟩
        rcases WrittenOut.split (x := ⟨3, s, 0, 0⟩) h.1 with ⟨hn, r, he⟩ | ⟨a, ha, he⟩
        · exact ⟨r, by rw [hn]; exact he⟩
        · exact ⟨_, by rw [ha]; exact he⟩)
      rw [hI]
      generalize (wtn ⟨3, s, 0, 0⟩).isSome = ob at *
      clear hI
      go_enter Tryz.func42, Tryz.ntmps42
      go_wp2_with fail
      refine (HW _).out.mono ?_
      rintro e w4 ⟨⟨r, rfl⟩, hk4⟩
      have hkA := (hk0.alloc (.cells #[.int .i64 2, .int .i64 n, .string s, .string st, .int .i64 f] 58 (0, 0))).alloc (.cells #[.int .i64 2, .int .i64 n, .string ⟨#[]⟩, .string st, .int .i64 f] 58 (0, 0))
      have hb1 := hk4.heap (alloc_old (heap_alloc_new w (.cells #[.int .i64 2, .int .i64 n, .string s, .string st, .int .i64 f] 58 (0, 0))) (.cells #[.int .i64 2, .int .i64 n, .string ⟨#[]⟩, .string st, .int .i64 f] 58 (0, 0))) (by simp)
      have hb2 := hk4.heap (heap_alloc2_new w (.cells #[.int .i64 2, .int .i64 n, .string s, .string st, .int .i64 f] 58 (0, 0)) (.cells #[.int .i64 2, .int .i64 n, .string ⟨#[]⟩, .string st, .int .i64 f] 58 (0, 0))) (by simp)
      obtain ⟨c0, c1, c2, c3, c4, _⟩ := part_block hb1
      obtain ⟨e0, e1, e2, e3, e4, _⟩ := part_block hb2
      have hk5 := hkA.then hk4
      clear hb1 hb2 hkA hk4 HW
      go_wp2_with fail
      all_goals go_returns
      all_goals refine ⟨congrArg (fun z => Ending.returned (.bool z)) ?_, hk5⟩
      all_goals simp_all
    · by_cases h3 : kd = 3
      · subst h3
        have hI : isM ⟨3, n, s, st, f⟩ = (decide (n = 0) && decide (s.toList = []) && (decide (0 ≤ f) && decide (f ≤ 5) && (st.toList.isEmpty || refStageM st))) := by
          have h4 : decide (st.data.toList = []) = st.toList.isEmpty := by rw [ByteArray.toList_eq]; cases st.data.toList <;> rfl
          have h5 : isM ⟨3, n, s, st, f⟩ = (decide (n = 0) && decide (s.data.toList = []) && decide (0 ≤ f) && decide (f ≤ 5) && (decide (st.data.toList = []) || stageM st)) := rfl
          rw [h5, h4, stageM_ref]
          simp only [ByteArray.toList_eq, Bool.and_assoc]
        rw [hI]
        unfold refStageM
        have HN := fun w => Lib.hid (named_any st w)
        have HK := fun w => Lib.hid (keyword_any st w)
        have hHead := fun h => Lib.hid (headI (s := st) h)
        have HNP := Lib.hid (fun h => name_pos (s := st) h)
        have hb1 := alloc_old (heap_alloc_new w (.cells #[.int .i64 3, .int .i64 n, .string s, .string st, .int .i64 f] 58 (0, 0))) (.cells #[.int .i64 3, .int .i64 n, .string s, .string ⟨#[]⟩, .int .i64 0] 58 (0, 0))
        have hb2 := heap_alloc2_new w (.cells #[.int .i64 3, .int .i64 n, .string s, .string st, .int .i64 f] 58 (0, 0)) (.cells #[.int .i64 3, .int .i64 n, .string s, .string ⟨#[]⟩, .int .i64 0] 58 (0, 0))
        have hk2 := (hk0.alloc (.cells #[.int .i64 3, .int .i64 n, .string s, .string st, .int .i64 f] 58 (0, 0))).alloc (.cells #[.int .i64 3, .int .i64 n, .string s, .string ⟨#[]⟩, .int .i64 0] 58 (0, 0))
        have HB1 := Lib.hid hb1
        have HB2 := Lib.hid hb2
        clear hI hb1 hb2
        cases hem : st.toList.isEmpty with
        | true =>
          clear HN HK hHead HNP
          go_enter Tryz.func42, Tryz.ntmps42
          go_wp2_with fail
          all_goals go_returns
          all_goals refine ⟨congrArg (fun z => Ending.returned (.bool z)) ?_, (hk0.alloc _).alloc _⟩
          all_goals first
            | (simp_all; done)
            | (simp_all; omega)
            | (have h0 : decide (0 ≤ f) = false := by (simp; omega)
               rw [h0]; simp)
            | (have h0 : decide (f ≤ 5) = false := by (simp; omega)
               rw [h0]; simp)
        | false =>
          cases hnm : nameM st with
          | false =>
            rw [hnm] at HN
            clear hHead HNP HK
            go_enter Tryz.func42, Tryz.ntmps42
            go_wp2_with (go_at_call 69; refine (HN _).out.mono ?_; rintro e w4 ⟨rfl, hk4⟩; obtain ⟨c0, c1, c2, c3, c4, _⟩ := part_block (hk4.heap HB1.out (by simp)))
            all_goals go_returns
            all_goals exact ⟨by simp, hk2.then hk4⟩
          | true =>
            have hp := HNP.out hnm
            have hh := (hHead hp).out
            have hp1 : (0 : Int) < (st.size : Int) := by omega
            have dh : decide ((st[0].toNat : Int) < 97) = !headM st := by
              rw [hh]
              by_cases h : (97 : Int) ≤ (st[0].toNat : Int)
              · simp [h]
              · simp [h]; omega
            rw [hnm] at HN
            clear hh hHead HNP
            cases hhd : headM st with
            | false =>
              rw [hhd] at dh
              simp only [Bool.not_false] at dh
              clear HK
              go_enter Tryz.func42, Tryz.ntmps42
              go_wp2_with (go_at_call 69; refine (HN _).out.mono ?_; rintro e w4 ⟨rfl, hk4⟩; obtain ⟨c0, c1, c2, c3, c4, _⟩ := part_block (hk4.heap HB1.out (by simp)))
              all_goals go_returns
              all_goals exact ⟨by simp, hk2.then hk4⟩
            | true =>
              rw [hhd] at dh
              simp only [Bool.not_true] at dh
              cases hkm : keyM st with
              | true =>
                rw [hkm] at HK
                go_enter Tryz.func42, Tryz.ntmps42
                go_wp2_with (first
                  | (go_at_call 69; refine (HN _).out.mono ?_; rintro e w4 ⟨rfl, hk4⟩; obtain ⟨c0, c1, c2, c3, c4, _⟩ := part_block (hk4.heap HB1.out (by simp)))
                  | (go_at_call 70; refine (HK _).out.mono ?_; rintro e w5 ⟨rfl, hk5⟩; obtain ⟨c0, c1, c2, c3, c4, _⟩ := part_block (hk5.heap (hk4.heap HB1.out (by simp)) (by simp))))
                all_goals go_returns
                all_goals exact ⟨by simp, (hk2.then hk4).then hk5⟩
              | false =>
                rw [hkm] at HK
                go_enter Tryz.func42, Tryz.ntmps42
                go_wp2_with (first
                  | (go_at_call 69; refine (HN _).out.mono ?_; rintro e w4 ⟨rfl, hk4⟩; obtain ⟨c0, c1, c2, c3, c4, _⟩ := part_block (hk4.heap HB1.out (by simp)))
                  | (go_at_call 70; refine (HK _).out.mono ?_; rintro e w5 ⟨rfl, hk5⟩; obtain ⟨c0, c1, c2, c3, c4, _⟩ := part_block (hk5.heap (hk4.heap HB1.out (by simp)) (by simp)); obtain ⟨e0, e1, e2, e3, e4, _⟩ := part_block (hk5.heap (hk4.heap HB2.out (by simp)) (by simp))))
                all_goals go_returns
                all_goals refine ⟨congrArg (fun z => Ending.returned (.bool z)) ?_, (hk2.then hk4).then hk5⟩
                all_goals first
                  | (simp_all; done)
                  | (simp_all; omega)
                  | (have h0 : decide (0 ≤ f) = false := by (simp; omega)
                     rw [h0]; simp)
                  | (have h0 : decide (f ≤ 5) = false := by (simp; omega)
                     rw [h0]; simp)
      · have hI : isM ⟨kd, n, s, st, f⟩ = (decide (4 ≤ kd) && decide (kd ≤ 13) && decide (n = 0) && decide (s.toList = []) && decide (st.toList = []) && decide (f = 0)) := by
          simp [isM, h1, h2, h3, ByteArray.toList_eq]
        rw [hI]
        clear hI
        have d1 : (kd == 1) = false := by rw [beq_eq_false_iff_ne]; exact h1
        have d2 : (kd == 2) = false := by rw [beq_eq_false_iff_ne]; exact h2
        have d3 : (kd == 3) = false := by rw [beq_eq_false_iff_ne]; exact h3
        have d4 : decide (kd ≥ 1) = decide (4 ≤ kd) := by apply decide_eq_decide.2; omega
        go_enter Tryz.func42, Tryz.ntmps42
        go_wp2_with fail
        all_goals go_returns
        all_goals refine ⟨congrArg (fun z => Ending.returned (.bool z)) ?_, (hk0.alloc _).alloc _⟩
        all_goals first
          | (simp_all; done)
          | (simp_all; intros; omega)
          | (have h0 : decide (4 ≤ kd) = false := by (simp; omega)
             rw [h0]; simp)
          | (have h0 : decide (kd ≤ 13) = false := by (simp; omega)
             rw [h0]; simp)

end Go.Proofs.YtefcmijobbgpbaaGreatDoor
