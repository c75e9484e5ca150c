/- Contract of one at a quote. Conditions: those of each theorem. -/
import Derived.Test.YtfoeadiejcheiaaDoorTokR
namespace Go.Proofs.YtfoeadiejcheiaaDoor
open Go.RowKit

theorem lex_text {s : ByteArray} {at_ : Nat} (hat : at_ < s.size) (h39 : s[at_] = 39) :
    lexOne (s.data.toList.drop at_) = if ((s.data.toList.drop (at_ + 1)).drop (spanN inText (s.data.toList.drop (at_ + 1)))).head? = some 39 ∧ spanN inText (s.data.toList.drop (at_ + 1)) ≤ 256 then
      some (⟨3, (s.data.toList.drop (at_ + 1)).take (spanN inText (s.data.toList.drop (at_ + 1))), 0⟩, spanN inText (s.data.toList.drop (at_ + 1)) + 2) else none := by
  have hd : s.data.toList.drop at_ = s[at_] :: s.data.toList.drop (at_ + 1) := List.drop_eq_getElem_cons (by exact hat)
  have hl : isLetter s[at_] = false := by rw [h39]; decide
  have hg : isDigit s[at_] = false := by rw [h39]; decide
  rw [hd, lexOne, if_neg (by simp [hl]), if_neg (by simp [hg]), if_pos h39]

theorem quoteAt_rest (s : ByteArray) (at_ : Nat) : quoteAt (s.extract (at_ + 1) s.size) = if spanN inText (s.data.toList.drop (at_ + 1)) < s.size - (at_ + 1) then (spanN inText (s.data.toList.drop (at_ + 1)) : Int) else -1 := by
  have h : (s.extract (at_ + 1) s.size).data.toList = s.data.toList.drop (at_ + 1) := by
    rw [extract_list]
    exact List.take_of_length_le (by rw [List.length_drop]; exact Nat.le_refl _)
  have h2 : (s.extract (at_ + 1) s.size).size = s.size - (at_ + 1) := by simp
  unfold quoteAt
  rw [h, h2]

theorem text_facts {s : ByteArray} {at_ : Nat} (hat : at_ < s.size) (h39 : s[at_] = 39) : ∃ k, quoteAt (s.extract (at_ + 1) s.size) = (if k < s.size - (at_ + 1) then (k : Int) else -1) ∧ k ≤ s.size - (at_ + 1) ∧
    (∀ h : at_ + 1 + k < s.size, lexOne (s.data.toList.drop at_) = if s[at_ + 1 + k] = 39 ∧ k ≤ 256 then some (⟨3, (s.extract (at_ + 1) (at_ + 1 + k)).data.toList, 0⟩, k + 2) else none) ∧
    (∀ h : at_ + 1 + k < s.size, s[at_ + 1 + k] = 39 ∨ s[at_ + 1 + k] = 10) ∧
    (¬ k < s.size - (at_ + 1) → lexOne (s.data.toList.drop at_) = none) := by
  have hsz : s.data.toList.length = s.size := rfl
  have hsp := spanN_le inText (s.data.toList.drop (at_ + 1))
  rw [List.length_drop, hsz] at hsp
  refine ⟨spanN inText (s.data.toList.drop (at_ + 1)), quoteAt_rest s at_, hsp, ?_, ?_, ?_⟩
  · intro h
    rw [lex_text hat h39, List.drop_drop, List.head?_drop, List.getElem?_eq_getElem h, extract_list, Nat.add_sub_cancel_left]
    simp only [Option.some.injEq]
    rfl
  · intro h
    have hs := span_at (p := inText) (l := s.data.toList) (j := at_ + 1 + spanN inText (s.data.toList.drop (at_ + 1))) h
    have hjc : s.data.toList[at_ + 1 + spanN inText (s.data.toList.drop (at_ + 1))]'h = s[at_ + 1 + spanN inText (s.data.toList.drop (at_ + 1))] := rfl
    rw [hjc] at hs
    cases hin : inText s[at_ + 1 + spanN inText (s.data.toList.drop (at_ + 1))] with
    | false =>
      simp only [inText, Bool.not_eq_false', Bool.or_eq_true, beq_iff_eq] at hin
      exact hin
    | true =>
      exfalso
      rw [hin, if_pos rfl] at hs
      have h0 : spanN inText ((s.data.toList.drop (at_ + 1)).drop (spanN inText (s.data.toList.drop (at_ + 1)))) = 0 := by
        have e := List.takeWhile_append_dropWhile (p := inText) (l := s.data.toList.drop (at_ + 1))
        have e2 : (s.data.toList.drop (at_ + 1)).drop (spanN inText (s.data.toList.drop (at_ + 1))) = (s.data.toList.drop (at_ + 1)).dropWhile inText := by
          have h3 : ∀ l : List UInt8, l.drop (l.takeWhile inText).length = l.dropWhile inText := by
            intro l
            induction l with
            | nil => rfl
            | cons a l ih =>
              rw [List.takeWhile_cons, List.dropWhile_cons]
              split
              · simpa using ih
              · rfl
          exact h3 _
        rw [e2]
        unfold spanN
        cases hdw : (s.data.toList.drop (at_ + 1)).dropWhile inText with
        | nil => rfl
        | cons b r =>
          have := List.head?_dropWhile_not inText (s.data.toList.drop (at_ + 1))
          rw [hdw] at this
          simp at this
          rw [List.takeWhile_cons, this]
          rfl
      rw [List.drop_drop] at h0
      omega
  · intro h
    rw [lex_text hat h39, List.drop_drop, List.drop_eq_nil_of_le (by omega), if_neg]
    rintro ⟨h1, _⟩
    cases h1

set_option maxHeartbeats 4000000 in
set_option maxRecDepth 100000 in
theorem one_text (s : ByteArray) (at_ : Nat) (w : World) (hG : Glob w) (hat : at_ < s.size) (hs : s.size ≤ 281474976710656) (h39 : s[at_] = 39) :
    Calls Tryd.prog 16 #[.string s, .int .i64 (at_ : Int)] w fun e w' => OneOut s at_ True e ∧ Keeps [] w w' := by
  have hk0 := Keeps.refl [] w
  have b0 : (0 : Int) ≤ (at_ : Int) := by omega
  have b1 : (at_ : Int) < (s.size : Int) := by omega
  have q3 : IntKind.i64.wrap ((at_ : Int) + 1) = (at_ : Int) + 1 := IntWalk.i64_in _ (by omega)
  have q4 : (at_ : Int) + 1 ≤ (s.size : Int) := by omega
  have HG := Lib.hid hG
  have HC := fun w h => Lib.hid (class_any s[at_] w h)
  have hcl : clsI s[at_] = 4 := by rw [h39]; decide
  rw [hcl] at HC
  obtain ⟨k, hq, hsp, hL, hor, hN⟩ := text_facts hat h39
  have hle : (s.extract (at_ + 1) s.size).size ≤ 4611686018427387904 := by simp; omega
  have HI := fun w => indexAny_quote (s.extract (at_ + 1) s.size) w hle
  rw [hq] at HI
  have HL := Lib.hid hL
  have HN := Lib.hid hN
  have HOr := Lib.hid hor
  clear hG hcl hq hle h39 hL hN hor
  go_enter Tryd.func16, Tryd.ntmps16
  by_cases hlt : k < s.size - (at_ + 1)
  · rw [if_pos hlt] at HI
    have HI2 := fun w => Lib.hid (HI w)
    clear HI
    have p1 : (0 : Int) ≤ (at_ : Int) + 1 + k := by omega
    have p2 : (at_ : Int) + 1 + k < (s.size : Int) := by omega
    have p3 : IntKind.i64.wrap ((at_ : Int) + 1 + k) = (at_ : Int) + 1 + k := IntWalk.i64_in _ (by omega)
    go_wp2_with (first
      | (go_at_call 24; refine (HC _ (HG.out.tab.keep (hk0.alloc _) (by simp))).out.mono ?_; rintro e w' ⟨rfl, rfl⟩)
      | (go_at_call 26; refine (HI2 _).out.mono ?_; rintro e w2 ⟨rfl, hk2⟩; obtain ⟨c0, c1, c2, c3, z0, z1, z2, z3⟩ := tok_block (hk2.heap (heap_alloc_new _ _) (by simp))))
    all_goals have hp : at_ + 1 + k < s.size := by omega
    · refine ret_row2 rfl w.heap.size _ _ _ _ rfl (set4_block (hk2.heap (heap_alloc_new _ _) (by simp)) _ _ _ _) Tryd.underlying34 rfl (by kernel_rfl) rfl ?_
      have hno : lexOne (s.data.toList.drop at_) = none := by
        rw [HL.out hp, if_neg]
        rintro ⟨e39, e256⟩
        have e2 : s[at_ + 1 + k].toNat = 39 := by rw [e39]; rfl
        omega
      exact ⟨⟨0, ⟨#[]⟩, 0, at_, 0, false, rfl, fun _ => OneIs.of_none hno 0 _ 0 at_ 0 rfl⟩, Keeps.set4 ((hk0.alloc _).then hk2) (Nat.le_refl _) _ _ _ _⟩
    · have p6 : (0 : Int) ≤ (at_ : Int) + 1 := by omega
      have hkw := (hk0.alloc (.cells #[.int .i64 0, .string (⟨#[]⟩ : ByteArray), .int .i64 0, .int .i64 at_] 34 (0, 0))).then hk2
      have hB := hk2.heap (heap_alloc_new w (.cells #[.int .i64 0, .string (⟨#[]⟩ : ByteArray), .int .i64 0, .int .i64 at_] 34 (0, 0))) (by simp)
      have p4 : (at_ : Int) + 1 ≤ (at_ : Int) + 1 + k := by omega
      have p5 : (at_ : Int) + 1 + k ≤ (s.size : Int) := by omega
      refine wp_region_chain (fun _ => True) [] [(0, 0), (1, 0), (2, 0), (3, 0), (4, 0), (5, 0), (6, 0), (7, 0), (8, 0), (9, 2), (10, 0), (11, 2)] (by kernel_rfl) (by kernel_rfl) (fun _ d _ _ _ h => by cases d <;> exact h) trivial ?_
      repeat (first
        | (refine wpC_pure (v := ?_) rfl (by rfl) ?_ ?_
           rotate_left 1
           · (intro w; go_simp; try with_reducible rfl)
           try simp only [Act.put, List.setIfInBounds_toArray, List.set_cons_zero, List.set_cons_succ, List.getElem_toArray, List.getElem_cons_succ, List.getElem_cons_zero]))
      refine wpC_step rfl (by rfl) (fun K hK => ?_)
      go_simp
      refine hK _ _ trivial ?_
      clear hK K
      try simp only [Act.put, List.setIfInBounds_toArray, List.set_cons_zero, List.set_cons_succ, List.getElem_toArray, List.getElem_cons_succ, List.getElem_cons_zero]
      repeat (first
        | (refine wpC_pure (v := ?_) rfl (by rfl) ?_ ?_
           rotate_left 1
           · (intro w; go_simp; try with_reducible rfl)
           try simp only [Act.put, List.setIfInBounds_toArray, List.set_cons_zero, List.set_cons_succ, List.getElem_toArray, List.getElem_cons_succ, List.getElem_cons_zero]))
      refine wpC_step rfl (by rfl) (fun K hK => ?_)
      go_simp
      refine hK _ _ trivial ?_
      clear hK K
      try simp only [Act.put, List.setIfInBounds_toArray, List.set_cons_zero, List.set_cons_succ, List.getElem_toArray, List.getElem_cons_succ, List.getElem_cons_zero]
      refine wpC_nil ?_
      go_wp2_with fail
      refine ret_row2 rfl w.heap.size _ _ _ _ rfl (drew_block (set4_block (set01_block hB _ _) _ _ _ _)) Tryd.underlying34 rfl (by kernel_rfl) rfl ?_
      have hsome : lexOne (s.data.toList.drop at_) = some (⟨3, (s.extract (at_ + 1) (at_ + 1 + k)).data.toList, 0⟩, k + 2) := by
        rw [HL.out hp, if_pos ⟨UInt8.toNat_inj.1 (by show s[at_ + 1 + k].toNat = 39; omega), by omega⟩]
      have e1 : ((at_ + (k + 2) : Nat) : Int) = (at_ : Int) + k + 2 := by omega
      have ho := OneIs.of_some hsome rfl
      rw [e1] at ho
      exact ⟨⟨3, _, 0, at_, (at_ : Int) + k + 2, true, rfl, fun _ => ho⟩, (Keeps.set4 ((hkw.setCell (.inr (Nat.le_refl _)) _).setCell (.inr (Nat.le_refl _)) _) (Nat.le_refl _) _ _ _ _).drew⟩
    · refine ret_row2 rfl w.heap.size _ _ _ _ rfl (set4_block (hk2.heap (heap_alloc_new _ _) (by simp)) _ _ _ _) Tryd.underlying34 rfl (by kernel_rfl) rfl ?_
      have hno : lexOne (s.data.toList.drop at_) = none := by
        rw [HL.out hp, if_neg]
        rintro ⟨e39, e256⟩
        have e2 : s[at_ + 1 + k].toNat = 39 := by rw [e39]; rfl
        omega
      exact ⟨⟨0, ⟨#[]⟩, 0, at_, 0, false, rfl, fun _ => OneIs.of_none hno 0 _ 0 at_ 0 rfl⟩, Keeps.set4 ((hk0.alloc _).then hk2) (Nat.le_refl _) _ _ _ _⟩
  · rw [if_neg hlt] at HI
    have HI2 := fun w => Lib.hid (HI w)
    have hno := Lib.hid (HN.out hlt)
    clear HI HL HOr HN
    have d1 : decide ((-1 : Int) < 0) = true := rfl
    go_wp2_with (first
      | (go_at_call 24; refine (HC _ (HG.out.tab.keep (hk0.alloc _) (by simp))).out.mono ?_; rintro e w' ⟨rfl, rfl⟩)
      | (go_at_call 26; refine (HI2 _).out.mono ?_; rintro e w2 ⟨rfl, hk2⟩; obtain ⟨c0, c1, c2, c3, z0, z1, z2, z3⟩ := tok_block (hk2.heap (heap_alloc_new _ _) (by simp))))
    refine ret_row2 rfl w.heap.size _ _ _ _ rfl (set4_block (hk2.heap (heap_alloc_new _ _) (by simp)) _ _ _ _) Tryd.underlying34 rfl (by kernel_rfl) rfl ?_
    exact ⟨⟨0, ⟨#[]⟩, 0, at_, 0, false, rfl, fun _ => OneIs.of_none hno.out 0 _ 0 at_ 0 rfl⟩, Keeps.set4 ((hk0.alloc _).then hk2) (Nat.le_refl _) _ _ _ _⟩

end Go.Proofs.YtfoeadiejcheiaaDoor
