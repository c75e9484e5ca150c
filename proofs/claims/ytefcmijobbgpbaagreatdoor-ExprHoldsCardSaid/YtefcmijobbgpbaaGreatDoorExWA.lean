/- The document's small functions of expressions: fields, keywords, names, kinds of operations. Conditions: those of each theorem. -/
import Derived.Test.YtefcmijobbgpbaaGreatDoorExRA
import Derived.Test.YtefcmijobbgpbaaGreatDoorExB
import Derived.Laws.EntriesVeiled
namespace Go.Proofs.YtefcmijobbgpbaaGreatDoor
open Go.RowKit

set_option maxHeartbeats 2000000 in
set_option maxRecDepth 100000 in
theorem refFields_any (w : World) : Calls Tryz.prog 50 #[] w fun e w' => e = .returned (.slice (some ⟨w.heap.size, 0, none⟩) 6 6) ∧ w' = w.alloc (.cells fieldCells 9 (0, 0)) := by
  go_enter Tryz.func50, Tryz.ntmps50
  go_wp2_with fail
  go_returns
  exact ⟨rfl, rfl⟩

theorem field_cells {w : World} {B : Nat} {t : TypeId} {fr : Nat × Nat} (h : w.heap[B]? = some (.cells fieldCells t fr)) (k : Nat) (hk : k < 6) : ∃ x, fieldWords[k]? = some x ∧ w.cell? ⟨B, k, none⟩ = some (.string x) := by
  have hc : k = 0 ∨ k = 1 ∨ k = 2 ∨ k = 3 ∨ k = 4 ∨ k = 5 := by omega
  rcases hc with rfl | rfl | rfl | rfl | rfl | rfl <;> (simp only [World.cell?, h]; exact ⟨_, rfl, rfl⟩)

set_option maxHeartbeats 2000000 in
set_option maxRecDepth 100000 in
theorem refField_any (s : ByteArray) (w : World) : Calls Tryz.prog 88 #[.string s] w fun e w' => e = .returned (.int .i64 (fieldI s)) ∧ Keeps [] w w' := by
  have HF := Lib.hid (refFields_any w)
  have hk1 := (Keeps.refl [] w).alloc (.cells fieldCells 9 (0, 0))
  have hb1 := heap_alloc_new w (.cells fieldCells 9 (0, 0))
  have HB := Lib.hid hb1
  have HI : Hid (fieldI s = idxFrom s (fieldWords.drop 0) 0) := Lib.hid rfl
  rw [HI.out]
  clear hb1 HI
  go_enter Tryz.func88, Tryz.ntmps88
  go_wp2_with (go_at_call 50; refine HF.out.mono ?_; rintro e w2 ⟨rfl, rfl⟩)
  go_loopw [4] (fun i wr => ∃ k : Nat, k ≤ 6 ∧ i = .int .i64 k ∧ Hid (idxFrom s (fieldWords.drop 0) 0 = idxFrom s (fieldWords.drop k) k) ∧ wr = w.alloc (.cells fieldCells 9 (0, 0))) (fun i _ => 6 - (intOf i).toNat)
  case atStart => exact ⟨0, Nat.zero_le _, rfl, Lib.hid rfl, rfl⟩
  case round =>
    obtain ⟨k, hk6, rfl, hI, rfl⟩ := hrel
    by_cases hlt : k < 6
    · have d1 : decide ((k : Int) < 6) = true := by simp; omega
      have b0 : (0 : Int) ≤ (k : Int) := by omega
      have b1 : (k : Int) < 6 := by omega
      obtain ⟨x, hx, hc⟩ := field_cells HB.out k hlt
      have HST := Lib.hid (idxFrom_step (v := s) hx k)
      clear hx
      go_wp2_with fail
      · go_returns
        have hq : x.data.toList = s.data.toList := by
          have h : x.toList = s.toList := eq_of_beq (by assumption)
          rwa [ByteArray.toList_eq, ByteArray.toList_eq] at h
        have h5 := HST.out
        rw [if_pos hq] at h5
        exact ⟨congrArg (fun z => Ending.returned (.int .i64 z)) (hI.out.trans h5).symm, hk1⟩
      · have hq : ¬ x.data.toList = s.data.toList := by
          have h : ¬ x.toList = s.toList := ne_of_beq_false (by assumption)
          rwa [ByteArray.toList_eq, ByteArray.toList_eq] at h
        have h5 := HST.out
        rw [if_neg hq] at h5
        exact ⟨⟨k + 1, by omega, by simp, Lib.hid (hI.out.trans h5), trivial⟩, by simp only [intOf]; omega⟩
    · have hke : k = 6 := by omega
      have d1 : decide ((k : Int) < 6) = false := by simp; omega
      have hE : idxFrom s (fieldWords.drop k) k = -1 := by rw [hke]; rfl
      have HE := Lib.hid hE
      clear hE
      go_wp2_with fail
      go_returns
      exact ⟨congrArg (fun z => Ending.returned (.int .i64 z)) (hI.out.trans HE.out).symm, hk1⟩

set_option maxHeartbeats 2000000 in
set_option maxRecDepth 100000 in
theorem keyword_any (s : ByteArray) (w : World) : Calls Tryz.prog 70 #[.string s] w fun e w' => e = .returned (.bool (keyM s)) ∧ Keeps [] w w' := by
  have HF := Lib.hid (refField_any s w)
  have HI : keyM s = (decide (fieldI s ≥ 0) || (s.toList == [111, 114] || (s.toList == [97, 110, 100] || s.toList == [110, 111, 116]))) := by
    rw [ByteArray.toList_eq]
    have e : ∀ l : List UInt8, (s.data.toList == l) = decide (s.data.toList = l) := fun l => by rw [Bool.eq_iff_iff]; simp
    rw [e, e, e]
    rfl
  rw [HI]
  generalize fieldI s = z at *
  clear HI
  go_enter Tryz.func70, Tryz.ntmps70
  go_wp2_with (go_at_call 88; refine HF.out.mono ?_; rintro e w2 ⟨rfl, hk2⟩)
  all_goals go_returns
  all_goals simp_all [Bool.or_assoc]

theorem alnumI (c : UInt8) : isAlnum c = ((decide ((97 : Int) ≤ c.toNat) && decide ((c.toNat : Int) ≤ 122)) || (decide ((48 : Int) ≤ c.toNat) && decide ((c.toNat : Int) ≤ 57))) := by
  simp only [isAlnum, isLetter, isDigit]
  congr 2 <;> apply decide_eq_decide.2 <;> omega

theorem all_drop {p : UInt8 → Bool} {l : List UInt8} {j : Nat} (hj : j < l.length) : (l.drop j).all p = (p l[j] && (l.drop (j + 1)).all p) := by
  rw [List.drop_eq_getElem_cons hj]
  rfl

set_option maxHeartbeats 2000000 in
set_option maxRecDepth 100000 in
theorem named_any (s : ByteArray) (w : World) : Calls Tryz.prog 69 #[.string s] w fun e w' => e = .returned (.bool (nameM s)) ∧ Keeps [] w w' := by
  have hk0 := Keeps.refl [] w
  have hsz : s.data.toList.length = s.size := rfl
  have hne : decide (s.data.toList ≠ []) = !(s.toList.isEmpty) := by
    rw [ByteArray.toList_eq]
    cases s.data.toList <;> rfl
  have HI : nameM s = (!(s.toList.isEmpty) && decide ((s.size : Int) ≤ 32) && s.data.toList.all isAlnum) := by
    unfold nameM
    rw [hne]
    congr 2
    apply decide_eq_decide.2
    omega
  rw [HI]
  have HSZ := Lib.hid hsz
  clear HI hne hsz
  cases h1 : s.toList.isEmpty with
  | true =>
    go_enter Tryz.func69, Tryz.ntmps69
    go_wp2_with fail
    go_returns
    exact ⟨rfl, hk0⟩
  | false =>
    by_cases h2 : s.size ≤ 32
    · have d2 : decide ((s.size : Int) > 32) = false := by simp; omega
      have d3 : decide ((s.size : Int) ≤ 32) = true := by simp; omega
      rw [d3]
      go_enter Tryz.func69, Tryz.ntmps69
      go_wp2_with fail
      go_loopw [3] (fun i wr => ∃ j : Nat, j ≤ s.size ∧ i = .int .i64 j ∧ Hid (s.data.toList.all isAlnum = (s.data.toList.drop j).all isAlnum) ∧ wr = w) (fun i _ => s.size - (intOf i).toNat)
      case atStart => exact ⟨0, Nat.zero_le _, rfl, Lib.hid rfl, rfl⟩
      case round =>
        obtain ⟨j, hj, rfl, hI, rfl⟩ := hrel
        by_cases hlt : j < s.size
        · have e1 : decide ((j : Int) < (s.size : Int)) = true := by simp; omega
          have b0 : (0 : Int) ≤ (j : Int) := by omega
          have b1 : (j : Int) < (s.size : Int) := by omega
          have hall := all_drop (p := isAlnum) (l := s.data.toList) (j := j) (by rw [HSZ.out]; exact hlt)
          have hjc : s.data.toList[j]'(by rw [HSZ.out]; exact hlt) = s[j] := rfl
          rw [hjc, alnumI] at hall
          have HA := Lib.hid (hI.out.trans hall)
          clear hall hjc h1 d2 d3
          go_wp2_with fail
          all_goals first
            | (go_returns
               have hb : ((decide ((97 : Int) ≤ s[j].toNat) && decide ((s[j].toNat : Int) ≤ 122)) || (decide ((48 : Int) ≤ s[j].toNat) && decide ((s[j].toNat : Int) ≤ 57))) = false := by
                 clear hI HA HSZ
                 generalize (s[j].toNat : Int) = c at *
                 simp only [Bool.not_eq_true', decide_eq_true_eq, decide_eq_false_iff_not, Bool.or_eq_false_iff, Bool.and_eq_false_iff] at *
                 omega
               have h3 := HA.out
               rw [hb] at h3
               exact ⟨congrArg (fun z => Ending.returned (.bool z)) (by simpa using h3.symm), hk0⟩)
            | (have hb : ((decide ((97 : Int) ≤ s[j].toNat) && decide ((s[j].toNat : Int) ≤ 122)) || (decide ((48 : Int) ≤ s[j].toNat) && decide ((s[j].toNat : Int) ≤ 57))) = true := by
                 clear hI HA HSZ
                 generalize (s[j].toNat : Int) = c at *
                 simp only [Bool.not_eq_false', decide_eq_true_eq, Bool.or_eq_true, Bool.and_eq_true] at *
                 omega
               have h3 := HA.out
               rw [hb, Bool.true_and] at h3
               exact ⟨⟨j + 1, by omega, by simp, Lib.hid h3, trivial⟩, by simp only [intOf]; omega⟩)
        · have e1 : decide ((j : Int) < (s.size : Int)) = false := by simp; omega
          have hE : (s.data.toList.drop j).all isAlnum = true := by rw [List.drop_eq_nil_of_le (by rw [HSZ.out]; omega)]; rfl
          have HE := Lib.hid (hI.out.trans hE)
          clear hE h1 h2 d2 d3
          go_wp2_with fail
          go_returns
          exact ⟨congrArg (fun z => Ending.returned (.bool z)) (by simpa using HE.out.symm), hk0⟩
    · have d2 : decide ((s.size : Int) > 32) = true := by simp; omega
      have d3 : decide ((s.size : Int) ≤ 32) = false := by simp; omega
      rw [d3]
      go_enter Tryz.func69, Tryz.ntmps69
      go_wp2_with fail
      go_returns
      exact ⟨rfl, hk0⟩

set_option maxHeartbeats 2000000 in
set_option maxRecDepth 100000 in
/-- The sign of an operation. -/
theorem opSign_any (k : Int) (hk : 4 ≤ k ∧ k ≤ 12) (w : World) : Calls Tryz.prog 51 #[.int .i64 k] w fun e w' => e = .returned (.string (opAt k).sign) ∧ Keeps [] w w' := by
  have hk1 := fun o => (Keeps.refl [] w).alloc o
  have hc : k = 4 ∨ k = 5 ∨ k = 6 ∨ k = 7 ∨ k = 8 ∨ k = 9 ∨ k = 10 ∨ k = 11 ∨ k = 12 := by omega
  clear hk
  go_enter Tryz.func51, Tryz.ntmps51
  rcases hc with rfl | rfl | rfl | rfl | rfl | rfl | rfl | rfl | rfl
  all_goals go_wp2_with fail
  all_goals go_returns
  all_goals exact ⟨rfl, hk1 _⟩

/-- The kind of an operation, of the kinds that it is of; 0: it may not be. -/
def ofM (k a b : Int) : Int :=
  if k = 13 then (if a = 3 then 3 else 0)
  else if 4 ≤ k ∧ k ≤ 12 ∧ a = b ∧ (a = (opAt k).of_ ∨ a = (opAt k).other) then (opAt k).is_ else 0

set_option maxHeartbeats 4000000 in
set_option maxRecDepth 100000 in
theorem of_any (k a b : Int) (hk : 4 ≤ k ∧ k ≤ 13) (w : World) : Calls Tryz.prog 43 #[.int .i64 k, .int .i64 a, .int .i64 b] w fun e w' => e = .returned (.int .i64 (ofM k a b)) ∧ w' = w := by
  have hc : k = 4 ∨ k = 5 ∨ k = 6 ∨ k = 7 ∨ k = 8 ∨ k = 9 ∨ k = 10 ∨ k = 11 ∨ k = 12 ∨ k = 13 := by omega
  clear hk
  rcases hc with rfl | rfl | rfl | rfl | rfl | rfl | rfl | rfl | rfl | rfl
  all_goals
    unfold ofM
    simp [opAt, opN, opsL]
    go_enter Tryz.func43, Tryz.ntmps43
    go_wp2_with fail
  all_goals go_returns
  all_goals simp_all
  all_goals omega

end Go.Proofs.YtefcmijobbgpbaaGreatDoor
