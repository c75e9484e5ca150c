/- What `works` answers. Conditions: those of each theorem. -/
import Derived.Test.YtfoeadiejcheiaaDoorLawA
namespace Go.Proofs.YtfoeadiejcheiaaDoor
open Go.RowKit

theorem tokens_bad {s : ByteArray} {p : Nat} {c : Int} (hs : ¬ 262144 < s.size) (hT : toksOf s = .error (p, c)) (w : World) (hG : Glob w) :
    Calls Tryd.prog 11 #[.string s] w fun e w' => e = .returned (.tuple #[.slice none 0 0, .agg #[.int .i64 (p : Nat), .int .i64 c]]) ∧ Keeps [] w w' :=
  (tokens_any s w hG).mono fun e w' ⟨h, hk⟩ => ⟨by unfold TokensOut at h; rw [if_neg hs, hT] at h; exact h, hk⟩

theorem tokens_good {s : ByteArray} {xs : List (Tok × Nat)} (hs : ¬ 262144 < s.size) (hT : toksOf s = .ok xs) (w : World) (hG : Glob w) :
    Calls Tryd.prog 11 #[.string s] w fun e w' => (∃ g cp, e = .returned (.tuple #[.slice (some ⟨g, 0, none⟩) (xs.length + 1) cp, .agg #[.int .i64 0, .int .i64 0]]) ∧ w.heap.size + 1 ≤ g ∧ TokSl w' g 0 (toksR xs s.size) ∧ w'.ownsRow (w.heap.size + 1) 34 4 (.slice (some ⟨g, 0, none⟩) (xs.length + 1) cp) (xs.length + 1) (rowOf (toksR xs s.size)) ∧ xs.length + 1 ≤ cp ∧ cp ≤ 9223372036854775807) ∧ Keeps [] w w' :=
  (tokens_any s w hG).mono fun e w' ⟨h, hk⟩ => ⟨by
    unfold TokensOut at h
    rw [if_neg hs, hT] at h
    obtain ⟨ao, cp, h1, h2⟩ := h
    rw [tokCells_row] at h2
    obtain ⟨g, rfl, h3, h4, h5, h6⟩ := own_toks h2 (toksR_length _ _) (by intro h; have := toksR_length xs s.size; rw [h] at this; simp at this)
    exact ⟨g, cp, h1, h3, h4, h2, h5, h6⟩, hk⟩

set_option maxHeartbeats 4000000 in
set_option maxRecDepth 100000 in
theorem works_any (w : World) (hG : Glob w) :
    Calls Tryd.prog 10 #[] w fun e w' => e = .returned (.bool true) ∧ Keeps [] w w' := by
  have hk0 := Keeps.refl [] w
  have HG := Lib.hid hG
  have H1 := fun w hG => Lib.hid (tokens_bad (s := str1) (by decide) toks_str1 w hG)
  have H2 := fun w hG => Lib.hid (tokens_good (s := str2) (by decide) toks_str2 w hG)
  have E := run_eqIn_fault
  have G := fault_guard
  clear hG
  go_enter Tryd.func10, Tryd.ntmps10
  go_wp2_with fail
  refine (H1 _ (HG.out.keep hk0)).out.mono ?_
  rintro e w1 ⟨rfl, hk1⟩
  go_wp2_with fail
  have hb1 := heap_alloc_new w1 (.cells #[.int .i64 5, .int .i64 100] 30 (0, 0))
  have hka := hk1.alloc (.cells #[.int .i64 5, .int .i64 100] 30 (0, 0))
  obtain ⟨w2, hw2⟩ : ∃ w2, w2 = w1.alloc (.cells #[.int .i64 5, .int .i64 100] 30 (0, 0)) := ⟨_, rfl⟩
  obtain ⟨A, hA⟩ : ∃ A, A = w1.heap.size := ⟨_, rfl⟩
  rw [← hw2, ← hA] at hb1 ⊢
  rw [← hw2] at hka
  clear hw2 hA
  refine (H2 _ (HG.out.keep hka)).out.mono ?_
  rintro e w3 ⟨⟨g, cp, rfl, hg, hT, hO, hc1, hc2⟩, hk3⟩
  have hb3 := hk3.heap hb1 (by simp)
  have hkb := hka.then hk3
  have HO := Lib.hid hO
  have HT := Lib.hid hT
  clear hb1 hk3 hO hT hka
  go_wp2_with fail
  have hb4 := (Keeps.refl [] w3).alloc (.cells #[.int .i64 0, .int .i64 0] 30 (0, 0))
  have hb5 := hb4.heap hb3 (by simp)
  have hb6 := heap_alloc_new w3 (.cells #[.int .i64 0, .int .i64 0] 30 (0, 0))
  have hkc := hkb.alloc (.cells #[.int .i64 0, .int .i64 0] 30 (0, 0))
  have HT4 := Lib.hid (HT.out.keep hb4)
  obtain ⟨w4, hw4⟩ : ∃ w4, w4 = w3.alloc (.cells #[.int .i64 0, .int .i64 0] 30 (0, 0)) := ⟨_, rfl⟩
  obtain ⟨B, hB⟩ : ∃ B, B = w3.heap.size := ⟨_, rfl⟩
  rw [← hB] at hb6
  rw [← hw4] at hb4 hb5 hb6 hkc HT4
  rw [← hw4, ← hB]
  clear hw4 hB hb3 hkb HT HO hb4
  have HJ := Lib.hid (join_some (toksR toks2 11) g 0 cp w4 (HG.out.keep hkc) (by intro x hx; simp [toksR, toks2, tokR] at hx; rcases hx with rfl | rfl | rfl | rfl <;> exact ⟨by decide, by decide, by decide⟩) HT4.out hc1 hc2 (by simp [toksR]))
  refine HJ.out.mono ?_
  rintro e w5 ⟨hj, hk5⟩
  unfold JoinOut at hj
  rw [join_str2] at hj
  simp only at hj
  subst hj
  obtain ⟨t0, t1, t2, t3⟩ := (HT4.out.keep hk5) 2 ⟨3, ⟨#[120, 32, 121]⟩, 0, 6⟩ rfl
  have hb7 := hk5.heap hb5 (by simp)
  have hb8 := hk5.heap hb6 (by simp)
  have hkd := hkc.then hk5
  have f0 := (cell_of_row w5 A 0 _ _ _ hb7).trans rfl
  have f1 := (cell_of_row w5 A 1 _ _ _ hb7).trans rfl
  have f2 := (cell_of_row w5 B 0 _ _ _ hb8).trans rfl
  have f3 := (cell_of_row w5 B 1 _ _ _ hb8).trans rfl
  have tl : ((toks2.length + 1 : Nat) : Int) = 4 := rfl
  clear HJ HT4 hb5 hb6 hkc hk5 hb7 hb8
  go_wp2_with fail
  go_returns
  exact ⟨rfl, hkd⟩

end Go.Proofs.YtfoeadiejcheiaaDoor
