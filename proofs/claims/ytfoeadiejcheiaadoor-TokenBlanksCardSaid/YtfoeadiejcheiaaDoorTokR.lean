/- Contract of one at digits whose number is too great. Conditions: those of each theorem. -/
import Derived.Test.YtfoeadiejcheiaaDoorTokQ
namespace Go.Proofs.YtfoeadiejcheiaaDoor
open Go.RowKit

theorem Glob.keep {w w' : World} (h : Glob w) (k : Keeps [] w w') : Glob w' :=
  ⟨h.tab.keep k (by simp), by obtain ⟨ev, h1, h2⟩ := h.err; exact ⟨ev, k.cell h1 (by simp), h2⟩, by obtain ⟨t, fr, h1⟩ := h.pow; exact ⟨t, fr, k.heap h1 (by simp)⟩⟩

set_option maxHeartbeats 4000000 in
set_option maxRecDepth 100000 in
theorem one_digit_over (s : ByteArray) (at_ : Nat) (w : World) (hG : Glob w) (hat : at_ < s.size) (hs : s.size ≤ 281474976710656) (hl : isLetter s[at_] = false) (hd : isDigit s[at_] = true)
    (hover : ¬ numVal ((s.data.toList.drop at_).take (spanN isDigit (s.data.toList.drop at_))) ≤ 9223372036854775807) :
    Calls Tryd.prog 16 #[.string s, .int .i64 (at_ : Int)] w fun e w' => OneOut s at_ True e ∧ Keeps [] w w' := by
  have hk0 := Keeps.refl [] w
  have b0 : (0 : Int) ≤ (at_ : Int) := by omega
  have b1 : (at_ : Int) < (s.size : Int) := by omega
  have HG := Lib.hid hG
  have HC := fun w h => Lib.hid (class_any s[at_] w h)
  have hcl : clsI s[at_] = 3 := by
    have := cls_digit s[at_]
    rw [hd, beq_iff_eq] at this
    exact this
  rw [hcl] at HC
  have HO := Lib.hid (oneIs_number hat hl hd 9223372036854775807 (fun h => absurd h hover))
  obtain ⟨d1, d2, d3⟩ := digitsAt_facts s at_ hat hd
  have HP := fun w he => parse_over (digitsAt s at_) w d1 d3 (by omega) he (by rw [digitsAt_list]; exact hover)
  have HP2 := fun w he => Lib.hid (HP w he)
  have hdg : digitsAt s at_ = s.extract at_ (at_ + spanN isDigit (s.data.toList.drop at_)) := rfl
  clear hG hcl hl d1 d2 d3 HP hd
  go_enter Tryd.func16, Tryd.ntmps16
  go_wp2_with (first
    | (go_at_call 24; refine (HC _ (HG.out.tab.keep (hk0.alloc _) (by simp))).out.mono ?_; rintro e w' ⟨rfl, rfl⟩))
  have hk1 := (hk0.alloc (.cells #[.int .i64 0, .string (⟨#[]⟩ : ByteArray), .int .i64 0, .int .i64 at_] 34 (0, 0))).alloc (.cells #[.int .u8 3] 5 (0, 0))
  have hB0 := heap_alloc_new w (.cells #[.int .i64 0, .string (⟨#[]⟩ : ByteArray), .int .i64 0, .int .i64 at_] 34 (0, 0))
  have hB1 := heap_alloc2_new w (.cells #[.int .i64 0, .string (⟨#[]⟩ : ByteArray), .int .i64 0, .int .i64 at_] 34 (0, 0)) (.cells #[.int .u8 3] 5 (0, 0))
  generalize hW : ((w.alloc (.cells #[.int .i64 0, .string (⟨#[]⟩ : ByteArray), .int .i64 0, .int .i64 at_] 34 (0, 0))).alloc (.cells #[.int .u8 3] 5 (0, 0))) = W at *
  have hB2 : W.heap[w.heap.size]? = some (.cells #[.int .i64 0, .string (⟨#[]⟩ : ByteArray), .int .i64 0, .int .i64 at_] 34 (0, 0)) := by
    rw [← hW]
    exact (Keeps.alloc (Keeps.refl [] _) _).heap hB0 (by simp)
  clear hW hB0
  refine (run_digit s at_ (w.heap.size + 1) W (HG.out.tab.keep hk1 (by simp)) (Nat.le_of_lt hat) (by omega) hB1).mono ?_
  rintro e w2 ⟨rfl, hk2⟩
  have hsp := spanN_le isDigit (s.data.toList.drop at_)
  have hsl : (s.data.toList.drop at_).length = s.size - at_ := by rw [List.length_drop]; rfl
  generalize hnv : numVal ((s.data.toList.drop at_).take (spanN isDigit (s.data.toList.drop at_))) = nv at *
  clear hnv
  generalize spanN isDigit (s.data.toList.drop at_) = k at *
  rw [hdg] at HP2
  clear hdg
  have q1 : (at_ : Int) ≤ (at_ : Int) + k := by omega
  have q2 : (at_ : Int) + k ≤ (s.size : Int) := by omega
  have q3 : IntKind.i64.wrap ((at_ : Int) + 1) = (at_ : Int) + 1 := IntWalk.i64_in _ (by omega)
  clear hsp hsl
  go_wp2_with fail
  refine (HP2 _ (HG.out.keep (hk1.then hk2)).err).out.mono ?_
  rintro e w3 ⟨⟨N, rfl⟩, hk3⟩
  have hB3 := hk3.heap (hk2.heap hB2 (by simp)) (by simp)
  have hkw := (hk1.then hk2).then hk3
  obtain ⟨c0, c1, c2, c3, z0, z1, z2, z3⟩ := tok_block hB3
  have hand : Go.bits .and .u64 (9223372036854775807 : Int) 9223372036854775807 = 9223372036854775807 := by
    have h := bits_and_u64_nat 9223372036854775807 9223372036854775807 (by omega) (by omega)
    rw [Nat.and_self] at h
    exact h
  go_wp2_with fail
  have hS := set02_block hB3 (.int .i64 2) (.int .i64 9223372036854775807)
  have hkw4 := (hkw.setCell (.inr (Nat.le_refl w.heap.size)) (p := ⟨w.heap.size, 0, none⟩) (.int .i64 2)).setCell (.inr (Nat.le_refl w.heap.size)) (p := ⟨w.heap.size, 2, none⟩) (.int .i64 9223372036854775807)
  generalize hW4 : ((w3.setCell ⟨w.heap.size, 0, none⟩ (.int .i64 2)).setCell ⟨w.heap.size, 2, none⟩ (.int .i64 9223372036854775807)) = W4 at *
  clear hW4 c0 c1 c2 c3 z0 z1 z2 z3
  obtain ⟨c0, c1, c2, c3, z0, z1, z2, z3⟩ := tok_block hS
  have HS4 := Lib.hid (And.intro c0 (And.intro c1 (And.intro c2 c3)))
  refine wp_region_chain (fun W' => W'.cell? ⟨w.heap.size, 0, none⟩ = some (.int .i64 2) ∧ W'.cell? ⟨w.heap.size, 1, none⟩ = some (.string ⟨#[]⟩) ∧ W'.cell? ⟨w.heap.size, 2, none⟩ = some (.int .i64 9223372036854775807) ∧ W'.cell? ⟨w.heap.size, 3, none⟩ = some (.int .i64 at_)) [16] [(0, 1), (1, 0), (2, 0), (3, 0), (4, 0), (5, 0), (6, 0), (7, 0), (8, 0), (9, 0), (10, 0), (11, 0), (12, 0), (13, 0), (14, 0), (15, 0), (16, 3), (17, 0), (18, 0)] (by kernel_rfl) (by kernel_rfl) (fun _ d _ _ _ h => by cases d <;> exact h) HS4.out ?_
  repeat (first
    | (refine wpC_pure (v := ?_) rfl (by rfl) ?_ ?_
       rotate_left 1
       · (intro w; go_simp; try with_reducible rfl)
       try simp only [Act.put, List.setIfInBounds_toArray, List.set_cons_zero, List.set_cons_succ, List.getElem_toArray, List.getElem_cons_succ, List.getElem_cons_zero])
    | (refine wpC_held (v := ?_) rfl (by rfl) ?_ ?_
       rotate_left 1
       · (rintro w ⟨x0, x1, x2, x3⟩; go_simp; try with_reducible rfl)
       try simp only [Act.put, List.setIfInBounds_toArray, List.set_cons_zero, List.set_cons_succ, List.getElem_toArray, List.getElem_cons_zero])
    | (refine wpC_pass rfl (by rfl) (by decide) ?_
       try simp only [Act.put, List.setIfInBounds_toArray, List.set_cons_zero, List.set_cons_succ, List.getElem_toArray, List.getElem_cons_succ, List.getElem_cons_zero]))
  refine wpC_last rfl (by rfl) (fun K hK => ?_)
  go_simp
  refine hK _ _ ?_
  clear hK K
  try simp only [Act.put, List.setIfInBounds_toArray, List.set_cons_zero, List.set_cons_succ, List.getElem_toArray, List.getElem_cons_succ, List.getElem_cons_zero]
  repeat (first
    | (refine wpC_pure (v := ?_) rfl (by rfl) ?_ ?_
       rotate_left 1
       · (intro w; go_simp; try with_reducible rfl)
       try simp only [Act.put, List.setIfInBounds_toArray, List.set_cons_zero, List.set_cons_succ, List.getElem_toArray, List.getElem_cons_succ, List.getElem_cons_zero]))
  refine wpC_nil ?_
  go_wp2_with fail
  refine ret_row2 rfl w.heap.size _ _ _ _ rfl (set4_block (drew_block hS) _ _ _ _) Tryd.underlying34 rfl (by kernel_rfl) rfl ?_
  have ho := HO.out
  have e1 : ((at_ + k : Nat) : Int) = (at_ : Int) + k := by omega
  have e3 : (decide (nv ≤ 9223372036854775807) && (decide (s[at_] ≠ 48) || decide (k = 1))) = false := by
    simp [hover]
  rw [e1, e3] at ho
  exact ⟨⟨2, _, 9223372036854775807, at_, (at_ : Int) + k, false, rfl, fun _ => ho⟩, Keeps.set4 hkw4.drew (Nat.le_refl _) _ _ _ _⟩

end Go.Proofs.YtfoeadiejcheiaaDoor
