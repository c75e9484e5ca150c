/- Contract of run. Conditions: those of each theorem. -/
import Derived.Test.YtfoeadiejcheiaaDoorTokB
import Derived.Test.YtfoeadiejcheiaaDoorRegion2
namespace Go.Proofs.YtfoeadiejcheiaaDoor
open Go.RowKit

/-- Is a byte of one of these classes? -/
def inCls (ofs : ByteArray) (c : UInt8) : Bool := decide (0 ≤ Lib.indexByte ofs.data.toList (clsI c).toNat.toUInt8)

theorem span_at {p : UInt8 → Bool} {l : List UInt8} {j : Nat} (hj : j < l.length) : spanN p (l.drop j) = if p l[j] = true then spanN p (l.drop (j + 1)) + 1 else 0 := by
  rw [List.drop_eq_getElem_cons hj]
  split
  · rename_i h
    exact span_pos h
  · rename_i h
    unfold spanN
    rw [List.takeWhile_cons, if_neg h]
    rfl

set_option maxRecDepth 100000 in
set_option maxHeartbeats 2000000 in
theorem run_any (s : ByteArray) (at_ : Nat) (sl : Value) (ofs : ByteArray) (w : World) (hT : Tab w) (hcv : ∀ w', Keeps [] w w' → (convert 43 9 sl).run Tryd.prog w' = .ok (.string ofs) w') (hat : at_ ≤ s.size) (hs : s.size ≤ 4611686018427387904) :
    Calls Tryd.prog 15 #[.string s, .int .i64 (at_ : Int), sl] w fun e w' => e = .returned (.int .i64 ((at_ + spanN (inCls ofs) (s.data.toList.drop at_) : Nat) : Int)) ∧ Keeps [] w w' := by
  have hk0 := Keeps.refl [] w
  have hsz : s.data.toList.length = s.size := rfl
  have Hcv := Lib.hid hcv
  have HT := Lib.hid hT
  clear hcv hT
  go_enter Tryd.func15, Tryd.ntmps15
  go_wp2_with fail
  go_loopw [1] (fun i wr => ∃ j : Nat, at_ ≤ j ∧ j ≤ s.size ∧ i = .int .i64 j ∧ at_ + spanN (inCls ofs) (s.data.toList.drop at_) = j + spanN (inCls ofs) (s.data.toList.drop j) ∧ Keeps [] w wr) (fun i _ => s.size - (intOf i).toNat)
  case atStart => exact ⟨at_, Nat.le_refl _, hat, rfl, rfl, hk0⟩
  case round =>
    obtain ⟨j, hj1, hj2, rfl, he, hk⟩ := hrel
    by_cases hlt : j < s.size
    · have d1 : decide ((j : Int) < (s.size : Int)) = true := by simp; omega
      have b0 : (0 : Int) ≤ (j : Int) := by omega
      have b1 : (j : Int) < (s.size : Int) := by omega
      go_wp2_with fail
      refine wp_region_tree (fun w' => Keeps [] w w') [] (.op 0 0 (.op 1 0 (.op 2 0 (.op 3 0 (.op 4 0 (.op 5 0 (.op 7 0 (.op 8 0 (.op 9 0 (.alt 6 (.op 10 2 (.op 11 2 (.op 12 0 (.op 13 0 (.done))))) 10 (.op 6 2 (.op 11 2 (.op 12 0 (.op 13 0 (.done))))))))))))))) (by kernel_rfl) (by kernel_rfl) (fun _ d _ _ _ h => by cases d <;> exact h) hk.drew ?_
      repeat (first
        | (refine wpT_pure (v := ?_) rfl (by rfl) ?_ ?_
           rotate_left 1
           · (intro w; go_simp; try with_reducible rfl)
           try simp only [Act.put, List.setIfInBounds_toArray, List.set_cons_zero, List.set_cons_succ, List.getElem_toArray, List.getElem_cons_succ, List.getElem_cons_zero]))
      have hsp := span_at (p := inCls ofs) (l := s.data.toList) (j := j) (by rw [hsz]; exact hlt)
      have hjc : s.data.toList[j] = s[j] := rfl
      rw [hjc] at hsp
      clear hjc
      generalize s[j] = c at *
      refine wpT_alt rfl rfl (by rfl) (by rfl) (fun K hK => ?_) (fun K hK => ?_)
      · skip
        have h6 := Hcv.out wr.drew hk.drew
        go_simp
        refine hK _ _ hk.drew ?_
        clear hK K h6
        try simp only [Act.put, List.setIfInBounds_toArray, List.set_cons_zero, List.set_cons_succ, List.getElem_toArray, List.getElem_cons_succ, List.getElem_cons_zero]
        refine wpT_step rfl (by rfl) (fun K hK => ?_)
        go_simp
        refine (class_any c _ (HT.out.keep hk.drew (by simp))).mono ?_
        rintro e w2 ⟨rfl, rfl⟩
        refine hK _ _ hk.drew ?_
        clear hK K
        try simp only [Act.put, List.setIfInBounds_toArray, List.set_cons_zero, List.set_cons_succ, List.getElem_toArray, List.getElem_cons_succ, List.getElem_cons_zero]
        refine wpT_step rfl (by rfl) (fun K hK => ?_)
        go_simp
        refine (indexByte_any ofs (clsI c) _).mono ?_
        rintro e w2 ⟨rfl, rfl⟩
        refine hK _ _ hk.drew ?_
        clear hK K
        try simp only [Act.put, List.setIfInBounds_toArray, List.set_cons_zero, List.set_cons_succ, List.getElem_toArray, List.getElem_cons_succ, List.getElem_cons_zero]
        cases hin : inCls ofs c with
        | true =>
          have d3 : decide (0 ≤ Lib.indexByte ofs.data.toList (clsI c).toNat.toUInt8) = true := hin
          have d4 : decide (Lib.indexByte ofs.data.toList (clsI c).toNat.toUInt8 ≥ 0) = true := hin
          rw [hin, if_pos rfl] at hsp
          generalize Lib.indexByte ofs.data.toList (clsI c).toNat.toUInt8 = r at *
          have wr1 : IntKind.i64.wrap ((j : Int) + 1) = (j : Int) + 1 := IntWalk.i64_in _ (by omega)
          repeat (first
            | (refine wpT_pure (v := ?_) rfl (by rfl) ?_ ?_
               rotate_left 1
               · (intro w; go_simp; try with_reducible rfl)
               try simp only [Act.put, List.setIfInBounds_toArray, List.set_cons_zero, List.set_cons_succ, List.getElem_toArray, List.getElem_cons_succ, List.getElem_cons_zero]))
          refine wpT_done ?_
          go_wp2_with fail
          exact ⟨⟨j + 1, by omega, by omega, by simp, by rw [he, hsp]; omega, hk.drew⟩, by simp only [intOf]; omega⟩
        | false =>
          have d3 : decide (0 ≤ Lib.indexByte ofs.data.toList (clsI c).toNat.toUInt8) = false := hin
          have d4 : decide (Lib.indexByte ofs.data.toList (clsI c).toNat.toUInt8 ≥ 0) = false := hin
          rw [hin, if_neg (by simp)] at hsp
          rw [hsp, Nat.add_zero] at he
          generalize Lib.indexByte ofs.data.toList (clsI c).toNat.toUInt8 = r at *
          repeat (first
            | (refine wpT_pure (v := ?_) rfl (by rfl) ?_ ?_
               rotate_left 1
               · (intro w; go_simp; try with_reducible rfl)
               try simp only [Act.put, List.setIfInBounds_toArray, List.set_cons_zero, List.set_cons_succ, List.getElem_toArray, List.getElem_cons_succ, List.getElem_cons_zero]))
          refine wpT_done ?_
          go_wp2_with fail
          go_ret
          exact ⟨by first | (rw [he]; done) | (rw [he]; rfl), hk.drew⟩
      · go_simp
        refine (class_any c _ (HT.out.keep hk.drew (by simp))).mono ?_
        rintro e w2 ⟨rfl, rfl⟩
        refine hK _ _ hk.drew ?_
        clear hK K
        try simp only [Act.put, List.setIfInBounds_toArray, List.set_cons_zero, List.set_cons_succ, List.getElem_toArray, List.getElem_cons_succ, List.getElem_cons_zero]
        refine wpT_step rfl (by rfl) (fun K hK => ?_)
        have h6 := Hcv.out wr.drew hk.drew
        go_simp
        refine hK _ _ hk.drew ?_
        clear hK K h6
        try simp only [Act.put, List.setIfInBounds_toArray, List.set_cons_zero, List.set_cons_succ, List.getElem_toArray, List.getElem_cons_succ, List.getElem_cons_zero]
        refine wpT_step rfl (by rfl) (fun K hK => ?_)
        go_simp
        refine (indexByte_any ofs (clsI c) _).mono ?_
        rintro e w2 ⟨rfl, rfl⟩
        refine hK _ _ hk.drew ?_
        clear hK K
        try simp only [Act.put, List.setIfInBounds_toArray, List.set_cons_zero, List.set_cons_succ, List.getElem_toArray, List.getElem_cons_succ, List.getElem_cons_zero]
        cases hin : inCls ofs c with
        | true =>
          have d3 : decide (0 ≤ Lib.indexByte ofs.data.toList (clsI c).toNat.toUInt8) = true := hin
          have d4 : decide (Lib.indexByte ofs.data.toList (clsI c).toNat.toUInt8 ≥ 0) = true := hin
          rw [hin, if_pos rfl] at hsp
          generalize Lib.indexByte ofs.data.toList (clsI c).toNat.toUInt8 = r at *
          have wr1 : IntKind.i64.wrap ((j : Int) + 1) = (j : Int) + 1 := IntWalk.i64_in _ (by omega)
          repeat (first
            | (refine wpT_pure (v := ?_) rfl (by rfl) ?_ ?_
               rotate_left 1
               · (intro w; go_simp; try with_reducible rfl)
               try simp only [Act.put, List.setIfInBounds_toArray, List.set_cons_zero, List.set_cons_succ, List.getElem_toArray, List.getElem_cons_succ, List.getElem_cons_zero]))
          refine wpT_done ?_
          go_wp2_with fail
          exact ⟨⟨j + 1, by omega, by omega, by simp, by rw [he, hsp]; omega, hk.drew⟩, by simp only [intOf]; omega⟩
        | false =>
          have d3 : decide (0 ≤ Lib.indexByte ofs.data.toList (clsI c).toNat.toUInt8) = false := hin
          have d4 : decide (Lib.indexByte ofs.data.toList (clsI c).toNat.toUInt8 ≥ 0) = false := hin
          rw [hin, if_neg (by simp)] at hsp
          rw [hsp, Nat.add_zero] at he
          generalize Lib.indexByte ofs.data.toList (clsI c).toNat.toUInt8 = r at *
          repeat (first
            | (refine wpT_pure (v := ?_) rfl (by rfl) ?_ ?_
               rotate_left 1
               · (intro w; go_simp; try with_reducible rfl)
               try simp only [Act.put, List.setIfInBounds_toArray, List.set_cons_zero, List.set_cons_succ, List.getElem_toArray, List.getElem_cons_succ, List.getElem_cons_zero]))
          refine wpT_done ?_
          go_wp2_with fail
          go_ret
          exact ⟨by first | (rw [he]; done) | (rw [he]; rfl), hk.drew⟩
    · have hje : j = s.size := by omega
      have d1 : decide ((j : Int) < (s.size : Int)) = false := by simp; omega
      have h0 : spanN (inCls ofs) (s.data.toList.drop j) = 0 := by
        rw [List.drop_eq_nil_of_le (by omega)]
        rfl
      rw [h0, Nat.add_zero] at he
      clear h0 hsz hje
      go_wp2_with fail
      refine wp_region_tree (fun _ => True) [] (.op 0 0 (.op 1 0 (.op 2 0 (.op 3 0 (.op 4 0 (.op 5 0 (.op 7 0 (.op 8 0 (.op 9 0 (.alt 6 (.op 10 2 (.op 11 2 (.op 12 0 (.op 13 0 (.done))))) 10 (.op 6 2 (.op 11 2 (.op 12 0 (.op 13 0 (.done))))))))))))))) (by kernel_rfl) (by kernel_rfl) (fun _ d _ _ _ h => by cases d <;> exact h) trivial ?_
      repeat (first
        | (refine wpT_pure (v := ?_) rfl (by rfl) ?_ ?_
           rotate_left 1
           · (intro w; go_simp; try with_reducible rfl)
           try simp only [Act.put, List.setIfInBounds_toArray, List.set_cons_zero, List.set_cons_succ, List.getElem_toArray, List.getElem_cons_succ, List.getElem_cons_zero]))
      repeat
        refine wpT_pass rfl (by rfl) (by decide) ?_
        try simp only [Act.put, List.setIfInBounds_toArray, List.set_cons_zero, List.set_cons_succ, List.getElem_toArray, List.getElem_cons_succ, List.getElem_cons_zero]
      refine wpT_altpass rfl rfl (by rfl) (by rfl) trivial ?_ ?_
      all_goals
        try simp only [Act.put, List.setIfInBounds_toArray, List.set_cons_zero, List.set_cons_succ, List.getElem_toArray, List.getElem_cons_succ, List.getElem_cons_zero]
        refine wpT_pass2 rfl (by rfl) trivial ?_
        try simp only [Act.put, List.setIfInBounds_toArray, List.set_cons_zero, List.set_cons_succ, List.getElem_toArray, List.getElem_cons_succ, List.getElem_cons_zero]
        refine wpT_pass2 rfl (by rfl) trivial ?_
        try simp only [Act.put, List.setIfInBounds_toArray, List.set_cons_zero, List.set_cons_succ, List.getElem_toArray, List.getElem_cons_succ, List.getElem_cons_zero]
        refine wpT_pass rfl (by rfl) (by decide) ?_
        try simp only [Act.put, List.setIfInBounds_toArray, List.set_cons_zero, List.set_cons_succ, List.getElem_toArray, List.getElem_cons_succ, List.getElem_cons_zero]
        refine wpT_pure (v := ?_) rfl (by rfl) ?_ ?_
        rotate_left 1
        · (intro w; go_simp; try with_reducible rfl)
        try simp only [Act.put, List.setIfInBounds_toArray, List.set_cons_zero, List.set_cons_succ, List.getElem_toArray, List.getElem_cons_succ, List.getElem_cons_zero]
        refine wpT_done ?_
        go_wp2_with fail
        go_ret
        exact ⟨by first | (rw [he]; done) | (rw [he]; rfl), hk.drew⟩

end Go.Proofs.YtfoeadiejcheiaaDoor
