/- Contract of one at signs, and of one. Conditions: those of each theorem. -/
import Derived.Test.YtfoeadiejcheiaaDoorTokS
namespace Go.Proofs.YtfoeadiejcheiaaDoor
open Go.RowKit

theorem sign3 (c : UInt8) : decide (0 ≤ Lib.indexByte (⟨#[60, 61, 33]⟩ : ByteArray).data.toList c) = (c == 60 || c == 61 || c == 33) := by
  have := all_bytes (p := fun c => decide (0 ≤ Lib.indexByte (⟨#[60, 61, 33]⟩ : ByteArray).data.toList c) == (c == 60 || c == 61 || c == 33)) (by decide +kernel) c
  simpa using this

theorem lex_sign {s : ByteArray} {at_ : Nat} (hat : at_ < s.size) (hsg : isSign s[at_] = true) :
    lexOne (s.data.toList.drop at_) = if (s[at_] = 60 ∨ s[at_] = 61 ∨ s[at_] = 33) ∧ (s.data.toList.drop (at_ + 1)).head? = some 61 then some (⟨4, [s[at_], 61], 0⟩, 2) else if s[at_] = 33 then none else some (⟨4, [s[at_]], 0⟩, 1) := by
  have hd : s.data.toList.drop at_ = s[at_] :: s.data.toList.drop (at_ + 1) := List.drop_eq_getElem_cons (by exact hat)
  have hx := all_bytes (p := fun c => !isSign c || (!isLetter c && !isDigit c && c != 39)) (by decide +kernel) s[at_]
  rw [hsg] at hx
  simp only [Bool.not_true, Bool.false_or, Bool.and_eq_true, Bool.not_eq_true', bne_iff_ne, ne_eq] at hx
  rw [hd, lexOne, if_neg (by simp [hx.1.1]), if_neg (by simp [hx.1.2]), if_neg hx.2, if_pos hsg]

theorem ext_one {s : ByteArray} {at_ : Nat} (hat : at_ < s.size) : s.extract at_ (at_ + 1) = ⟨[s[at_]].toArray⟩ := by
  rw [extract_list, List.drop_eq_getElem_cons (by exact hat)]
  have : at_ + 1 - at_ = 1 := by omega
  rw [this]
  rfl
theorem ext_two {s : ByteArray} {at_ : Nat} (h : at_ + 1 < s.size) : s.extract at_ (at_ + 2) = ⟨[s[at_], s[at_ + 1]].toArray⟩ := by
  rw [extract_list, List.drop_eq_getElem_cons (show at_ < s.data.toList.length from (by have : s.data.toList.length = s.size := rfl; omega)), List.drop_eq_getElem_cons (by exact h)]
  have : at_ + 2 - at_ = 2 := by omega
  rw [this]
  rfl
theorem head_next {s : ByteArray} {at_ : Nat} (h : at_ + 1 < s.size) : (s.data.toList.drop (at_ + 1)).head? = some s[at_ + 1] := by
  rw [List.drop_eq_getElem_cons (by exact h)]
  rfl

theorem sign_two {s : ByteArray} {at_ : Nat} (h : at_ + 1 < s.size) (hsg : isSign s[at_] = true) (h1 : (s[at_ + 1].toNat : Int) = 61) (h2 : s[at_] = 60 ∨ s[at_] = 61 ∨ s[at_] = 33) :
    OneIs s at_ (.tuple #[.agg #[.int .i64 4, .string (s.extract at_ (at_ + 2)), .int .i64 0, .int .i64 at_], .int .i64 ((at_ : Int) + 2), .bool (!((s.extract at_ (at_ + 2)).toList == [33]))]) := by
  have h61 : s[at_ + 1] = 61 := UInt8.toNat_inj.1 (by show s[at_ + 1].toNat = 61; omega)
  refine OneIs.of_some (t := ⟨4, [s[at_], 61], 0⟩) (k := 2) ?_ ?_
  · rw [lex_sign (by omega) hsg, if_pos ⟨h2, by rw [head_next h, h61]⟩]
  · have e : ((⟨[s[at_], s[at_ + 1]].toArray⟩ : ByteArray).toList == [33]) = false := by
      rw [ByteArray.toList_eq]
      show ([s[at_], s[at_ + 1]] == [33]) = false
      simp
    rw [ext_two h, e, h61]
    rfl

theorem sign_one {s : ByteArray} {at_ : Nat} (hat : at_ < s.size) (hsg : isSign s[at_] = true) (h : ¬ ((s[at_] = 60 ∨ s[at_] = 61 ∨ s[at_] = 33) ∧ ∃ h : at_ + 1 < s.size, (s[at_ + 1].toNat : Int) = 61)) :
    OneIs s at_ (.tuple #[.agg #[.int .i64 4, .string (s.extract at_ (at_ + 1)), .int .i64 0, .int .i64 at_], .int .i64 ((at_ : Int) + 1), .bool (!((s.extract at_ (at_ + 1)).toList == [33]))]) := by
  have hn : ¬ ((s[at_] = 60 ∨ s[at_] = 61 ∨ s[at_] = 33) ∧ (s.data.toList.drop (at_ + 1)).head? = some 61) := by
    rintro ⟨h1, h2⟩
    rcases Nat.lt_or_ge (at_ + 1) s.size with h3 | h3
    · rw [head_next h3] at h2
      have h4 := Option.some.inj h2
      exact h ⟨h1, h3, by rw [h4]; rfl⟩
    · rw [List.drop_eq_nil_of_le (by exact h3)] at h2
      cases h2
  have e : ((⟨[s[at_]].toArray⟩ : ByteArray).toList == [33]) = (s[at_] == 33) := by
    rw [ByteArray.toList_eq]
    show ([s[at_]] == [33]) = (s[at_] == 33)
    rw [Bool.eq_iff_iff]
    simp
  rw [ext_one hat, e]
  have hL := lex_sign hat hsg
  rw [if_neg hn] at hL
  by_cases h33 : s[at_] = 33
  · rw [if_pos h33] at hL
    refine OneIs.of_none hL 4 (⟨[s[at_]].toArray⟩ : ByteArray) 0 at_ ((at_ : Int) + 1) ?_
    have e2 : (!(s[at_] == 33)) = false := by simp [h33]
    rw [e2]
    rfl
  · rw [if_neg h33] at hL
    refine OneIs.of_some hL ?_
    have e2 : (!(s[at_] == 33)) = true := by simp [h33]
    rw [e2]
    rfl

set_option maxHeartbeats 4000000 in
set_option maxRecDepth 100000 in
theorem one_sign (s : ByteArray) (at_ : Nat) (w : World) (hG : Glob w) (hat : at_ < s.size) (hs : s.size ≤ 281474976710656) (hsg : isSign s[at_] = true) :
    Calls Tryd.prog 16 #[.string s, .int .i64 (at_ : Int)] w fun e w' => OneOut s at_ True e ∧ Keeps [] w w' := by
  have hk0 := Keeps.refl [] w
  have b0 : (0 : Int) ≤ (at_ : Int) := by omega
  have b1 : (at_ : Int) < (s.size : Int) := by omega
  have q3 : IntKind.i64.wrap ((at_ : Int) + 1) = (at_ : Int) + 1 := IntWalk.i64_in _ (by omega)
  have q5 : IntKind.i64.wrap ((at_ : Int) + 1 + 1) = (at_ : Int) + 2 := IntWalk.i64_in _ (by omega) |>.trans (by omega)
  have HG := Lib.hid hG
  have HC := fun w h => Lib.hid (class_any s[at_] w h)
  have hcl : clsI s[at_] = 5 := by
    have := cls_sign s[at_]
    rw [hsg, beq_iff_eq] at this
    exact this
  rw [hcl] at HC
  have HS1 := Lib.hid (sign_one hat hsg)
  have HS2 := Lib.hid (fun h h1 h2 => sign_two h hsg h1 h2)
  have hI := fun w => indexByte_any ⟨#[60, 61, 33]⟩ (s[at_].toNat : Int) w
  have hback : ((s[at_].toNat : Int)).toNat.toUInt8 = s[at_] := by simp
  have h3 := sign3 s[at_]
  rw [hback] at hI
  generalize Lib.indexByte (⟨#[60, 61, 33]⟩ : ByteArray).data.toList s[at_] = r at *
  have HI := fun w => Lib.hid (hI w)
  have H3 := Lib.hid h3
  clear hG hcl hsg hI hback h3
  go_enter Tryd.func16, Tryd.ntmps16
  by_cases hlt : at_ + 1 < s.size
  · have d1 : decide ((at_ : Int) + 1 < (s.size : Int)) = true := by simp; omega
    have p1 : (0 : Int) ≤ (at_ : Int) + 1 := by omega
    have p2 : (at_ : Int) + 1 < (s.size : Int) := by omega
    have p3 : (at_ : Int) + 2 ≤ (s.size : Int) := by omega
    have p4 : (at_ : Int) ≤ (at_ : Int) + 2 := by omega
    have p5 : (at_ : Int) ≤ (at_ : Int) + 1 := by omega
    have p6 : (at_ : Int) + 1 ≤ (s.size : Int) := by omega
    go_wp2_with (first
      | (go_at_call 24; refine (HC _ (HG.out.tab.keep (hk0.alloc _) (by simp))).out.mono ?_; rintro e w' ⟨rfl, rfl⟩)
      | (go_at_call 23; refine (HI _).out.mono ?_; rintro e w2 ⟨rfl, rfl⟩))
    all_goals
      have hB := heap_alloc_new w (.cells #[.int .i64 0, .string (⟨#[]⟩ : ByteArray), .int .i64 0, .int .i64 at_] 34 (0, 0))
      have hkw := hk0.alloc (.cells #[.int .i64 0, .string (⟨#[]⟩ : ByteArray), .int .i64 0, .int .i64 at_] 34 (0, 0))
      generalize (w.alloc (.cells #[.int .i64 0, .string (⟨#[]⟩ : ByteArray), .int .i64 0, .int .i64 at_] 34 (0, 0))) = w2 at *
      obtain ⟨c0, c1, c2, c3, z0, z1, z2, z3⟩ := tok_block hB
      refine wp_region_chain (fun _ => True) [] [(0, 0), (1, 0), (2, 0), (3, 0), (4, 0), (5, 2), (6, 0), (7, 2)] (by kernel_rfl) (by kernel_rfl) (fun _ d _ _ _ h => by cases d <;> exact h) trivial ?_
      repeat (first
        | (refine wpC_pure (v := ?_) rfl (by rfl) ?_ ?_
           rotate_left 1
           · (intro w; go_simp; try with_reducible rfl)
           try simp only [Act.put, List.setIfInBounds_toArray, List.set_cons_zero, List.set_cons_succ, List.getElem_toArray, List.getElem_cons_succ, List.getElem_cons_zero]))
      refine wpC_step rfl (by rfl) (fun K hK => ?_)
      go_simp
      refine hK _ _ trivial ?_
      clear hK K
      try simp only [Act.put, List.setIfInBounds_toArray, List.set_cons_zero, List.set_cons_succ, List.getElem_toArray, List.getElem_cons_succ, List.getElem_cons_zero]
      repeat (first
        | (refine wpC_pure (v := ?_) rfl (by rfl) ?_ ?_
           rotate_left 1
           · (intro w; go_simp; try with_reducible rfl)
           try simp only [Act.put, List.setIfInBounds_toArray, List.set_cons_zero, List.set_cons_succ, List.getElem_toArray, List.getElem_cons_succ, List.getElem_cons_zero]))
      refine wpC_step rfl (by rfl) (fun K hK => ?_)
      go_simp
      refine hK _ _ trivial ?_
      clear hK K
      try simp only [Act.put, List.setIfInBounds_toArray, List.set_cons_zero, List.set_cons_succ, List.getElem_toArray, List.getElem_cons_succ, List.getElem_cons_zero]
      refine wpC_nil ?_
      go_wp2_with fail
      refine ret_row2 rfl w.heap.size _ _ _ _ rfl (drew_block (set4_block (set01_block hB _ _) _ _ _ _)) Tryd.underlying34 rfl (by kernel_rfl) rfl ?_
      have h3 := H3.out
    · have hor : s[at_] = 60 ∨ s[at_] = 61 ∨ s[at_] = 33 := by
        have h4 : decide (0 ≤ r) = true := by simp; assumption
        rw [h4] at h3
        have h5 := h3.symm
        simp only [Bool.or_eq_true, beq_iff_eq] at h5
        rcases h5 with (h | h) | h
        · exact .inl h
        · exact .inr (.inl h)
        · exact .inr (.inr h)
      exact ⟨⟨4, _, 0, at_, (at_ : Int) + 2, _, rfl, fun _ => HS2.out hlt (by assumption) hor⟩, (Keeps.set4 ((hkw.setCell (.inr (Nat.le_refl _)) _).setCell (.inr (Nat.le_refl _)) _) (Nat.le_refl _) _ _ _ _).drew⟩
    · have hno : ¬ ((s[at_] = 60 ∨ s[at_] = 61 ∨ s[at_] = 33) ∧ ∃ h : at_ + 1 < s.size, (s[at_ + 1].toNat : Int) = 61) := by
        have h4 : decide (0 ≤ r) = false := by simp; assumption
        rw [h4] at h3
        have h5 := h3.symm
        simp only [Bool.or_eq_false_iff, beq_eq_false_iff_ne] at h5
        rintro ⟨h | h | h, _⟩
        · exact h5.1.1 h
        · exact h5.1.2 h
        · exact h5.2 h
      exact ⟨⟨4, _, 0, at_, (at_ : Int) + 1, _, rfl, fun _ => HS1.out hno⟩, (Keeps.set4 ((hkw.setCell (.inr (Nat.le_refl _)) _).setCell (.inr (Nat.le_refl _)) _) (Nat.le_refl _) _ _ _ _).drew⟩
    · have hno : ¬ ((s[at_] = 60 ∨ s[at_] = 61 ∨ s[at_] = 33) ∧ ∃ h : at_ + 1 < s.size, (s[at_ + 1].toNat : Int) = 61) := by
        rintro ⟨_, _, h⟩
        omega
      exact ⟨⟨4, _, 0, at_, (at_ : Int) + 1, _, rfl, fun _ => HS1.out hno⟩, (Keeps.set4 ((hkw.setCell (.inr (Nat.le_refl _)) _).setCell (.inr (Nat.le_refl _)) _) (Nat.le_refl _) _ _ _ _).drew⟩
  · have d1 : decide ((at_ : Int) + 1 < (s.size : Int)) = false := by simp; omega
    have p5 : (at_ : Int) ≤ (at_ : Int) + 1 := by omega
    have p6 : (at_ : Int) + 1 ≤ (s.size : Int) := by omega
    go_wp2_with (first
      | (go_at_call 24; refine (HC _ (HG.out.tab.keep (hk0.alloc _) (by simp))).out.mono ?_; rintro e w' ⟨rfl, rfl⟩)
      | (go_at_call 23; refine (HI _).out.mono ?_; rintro e w2 ⟨rfl, rfl⟩))
    all_goals
      have hB := heap_alloc_new w (.cells #[.int .i64 0, .string (⟨#[]⟩ : ByteArray), .int .i64 0, .int .i64 at_] 34 (0, 0))
      have hkw := hk0.alloc (.cells #[.int .i64 0, .string (⟨#[]⟩ : ByteArray), .int .i64 0, .int .i64 at_] 34 (0, 0))
      generalize (w.alloc (.cells #[.int .i64 0, .string (⟨#[]⟩ : ByteArray), .int .i64 0, .int .i64 at_] 34 (0, 0))) = w2 at *
      obtain ⟨c0, c1, c2, c3, z0, z1, z2, z3⟩ := tok_block hB
      refine wp_region_chain (fun _ => True) [] [(0, 0), (1, 0), (2, 0), (3, 0), (4, 0), (5, 2), (6, 0), (7, 2)] (by kernel_rfl) (by kernel_rfl) (fun _ d _ _ _ h => by cases d <;> exact h) trivial ?_
      repeat (first
        | (refine wpC_pure (v := ?_) rfl (by rfl) ?_ ?_
           rotate_left 1
           · (intro w; go_simp; try with_reducible rfl)
           try simp only [Act.put, List.setIfInBounds_toArray, List.set_cons_zero, List.set_cons_succ, List.getElem_toArray, List.getElem_cons_succ, List.getElem_cons_zero]))
      refine wpC_step rfl (by rfl) (fun K hK => ?_)
      go_simp
      refine hK _ _ trivial ?_
      clear hK K
      try simp only [Act.put, List.setIfInBounds_toArray, List.set_cons_zero, List.set_cons_succ, List.getElem_toArray, List.getElem_cons_succ, List.getElem_cons_zero]
      repeat (first
        | (refine wpC_pure (v := ?_) rfl (by rfl) ?_ ?_
           rotate_left 1
           · (intro w; go_simp; try with_reducible rfl)
           try simp only [Act.put, List.setIfInBounds_toArray, List.set_cons_zero, List.set_cons_succ, List.getElem_toArray, List.getElem_cons_succ, List.getElem_cons_zero]))
      refine wpC_step rfl (by rfl) (fun K hK => ?_)
      go_simp
      refine hK _ _ trivial ?_
      clear hK K
      try simp only [Act.put, List.setIfInBounds_toArray, List.set_cons_zero, List.set_cons_succ, List.getElem_toArray, List.getElem_cons_succ, List.getElem_cons_zero]
      refine wpC_nil ?_
      go_wp2_with fail
      refine ret_row2 rfl w.heap.size _ _ _ _ rfl (drew_block (set4_block (set01_block hB _ _) _ _ _ _)) Tryd.underlying34 rfl (by kernel_rfl) rfl ?_
      have h3 := H3.out
    have hno : ¬ ((s[at_] = 60 ∨ s[at_] = 61 ∨ s[at_] = 33) ∧ ∃ h : at_ + 1 < s.size, (s[at_ + 1].toNat : Int) = 61) := by
      rintro ⟨_, h, _⟩
      omega
    exact ⟨⟨4, _, 0, at_, (at_ : Int) + 1, _, rfl, fun _ => HS1.out hno⟩, (Keeps.set4 ((hkw.setCell (.inr (Nat.le_refl _)) _).setCell (.inr (Nat.le_refl _)) _) (Nat.le_refl _) _ _ _ _).drew⟩

set_option maxHeartbeats 4000000 in
set_option maxRecDepth 100000 in
theorem one_other (s : ByteArray) (at_ : Nat) (w : World) (hG : Glob w) (hat : at_ < s.size) (hl : isLetter s[at_] = false) (hg : isDigit s[at_] = false) (h39 : s[at_] ≠ 39) (hsg : isSign s[at_] = false) :
    Calls Tryd.prog 16 #[.string s, .int .i64 (at_ : Int)] w fun e w' => OneOut s at_ True e ∧ Keeps [] w w' := by
  have hk0 := Keeps.refl [] w
  have b0 : (0 : Int) ≤ (at_ : Int) := by omega
  have b1 : (at_ : Int) < (s.size : Int) := by omega
  have HG := Lib.hid hG
  have HC := fun w h => class_any s[at_] w h
  have hno : lexOne (s.data.toList.drop at_) = none := by
    have hd : s.data.toList.drop at_ = s[at_] :: s.data.toList.drop (at_ + 1) := List.drop_eq_getElem_cons (by exact hat)
    rw [hd, lexOne, if_neg (by simp [hl]), if_neg (by simp [hg]), if_neg h39, if_neg (by simp [hsg])]
  have HN := Lib.hid hno
  have hc2 := cls_letter s[at_]
  have hc3 := cls_digit s[at_]
  have hc4 := cls_quote s[at_]
  have hc5 := cls_sign s[at_]
  rw [hl] at hc2
  rw [hg] at hc3
  rw [hsg] at hc5
  have e39 : (s[at_] == 39) = false := by simp [h39]
  rw [e39] at hc4
  clear hG hl hg h39 hsg hno e39
  generalize clsI s[at_] = z at *
  have HC := fun w h => Lib.hid (HC w h)
  go_enter Tryd.func16, Tryd.ntmps16
  go_wp2_with (go_at_call 24; refine (HC _ (HG.out.tab.keep (hk0.alloc _) (by simp))).out.mono ?_; rintro e w' ⟨rfl, rfl⟩)
  refine ret_row2 rfl w.heap.size _ _ _ _ rfl (heap_alloc_new _ _) Tryd.underlying34 rfl (by kernel_rfl) rfl ?_
  exact ⟨⟨0, ⟨#[]⟩, 0, at_, 0, false, rfl, fun _ => OneIs.of_none HN.out 0 _ 0 at_ 0 rfl⟩, hk0.alloc _⟩

theorem one_any (s : ByteArray) (at_ : Nat) (w : World) (hG : Glob w) (hat : at_ < s.size) (hs : s.size ≤ 281474976710656) :
    Calls Tryd.prog 16 #[.string s, .int .i64 (at_ : Int)] w fun e w' => OneOut s at_ True e ∧ Keeps [] w w' := by
  cases hl : isLetter s[at_] with
  | true => exact one_letter s at_ w hG hat hs hl
  | false =>
    cases hd : isDigit s[at_] with
    | true =>
      by_cases h : numVal ((s.data.toList.drop at_).take (spanN isDigit (s.data.toList.drop at_))) ≤ 9223372036854775807
      · exact one_digit_fit s at_ w hG hat hs hl hd h
      · exact one_digit_over s at_ w hG hat hs hl hd h
    | false =>
      by_cases h39 : s[at_] = 39
      · exact one_text s at_ w hG hat hs h39
      · cases hsg : isSign s[at_] with
        | true => exact one_sign s at_ w hG hat hs hsg
        | false => exact one_other s at_ w hG hat hl hd h39 hsg

end Go.Proofs.YtfoeadiejcheiaaDoor
