/- Contracts of the reference's Send and Copy, every way. Conditions: those of each theorem. -/
import Derived.Test.YtgkdlpbnhjfkdaaRefE
namespace Go.Proofs.Ytgkdlpbnhjfkdaa
open Go.RowKit

set_option maxHeartbeats 1000000 in
theorem ref_send {a t vals to c} (fr x : Int) (b : ByteArray) (w : World) (h : RefRep w a t vals to c) (hbs : b.size ≤ 9223372036854775807) :
    Calls Try.prog 22 #[.pointer (some ⟨a, 0, none⟩), .int .i64 fr, .int .i64 x, .string b] w fun e w' => e = .returned (.int .i64 (sendM to c fr x b).2.2) ∧
      RefPost w w' a t vals (sendM to c fr x b).1 (sendM to c fr x b).2.1 := by
  have stay : RefPost w w a t vals to c := ⟨vals, h, NetStep.same (Keeps.refl _ _)⟩
  by_cases hn : noNode to.length fr = true ∨ noNode to.length x = true
  · have hs : sendM to c fr x b = (to, c, 180) := by simp only [sendM]; rw [if_pos hn]
    rw [hs]
    have N1 := Lib.hid (ref_none fr w h)
    have N2 := Lib.hid (ref_none x w h)
    by_cases h1 : noNode to.length fr = true
    · rw [h1] at N1
      clear hs hn h1 h
      go_enter Try.func22, Try.ntmps22
      go_wp2_with fail
      refine N1.out.mono ?_
      rintro e w' ⟨rfl, rfl⟩
      go_wp2_with fail
      go_ret
      exact ⟨rfl, stay⟩
    · have h1' : noNode to.length fr = false := by simpa using h1
      rw [h1'] at N1
      rw [hn.resolve_left h1] at N2
      clear hs hn h1 h h1'
      go_enter Try.func22, Try.ntmps22
      go_wp2_with fail
      refine N1.out.mono ?_
      rintro e w' ⟨rfl, rfl⟩
      go_wp2_with fail
      refine N2.out.mono ?_
      rintro e w' ⟨rfl, rfl⟩
      go_wp2_with fail
      go_ret
      exact ⟨rfl, stay⟩
  · have hs : sendM to c fr x b = putM to c x.toNat (fr, b) 0 := by simp only [sendM]; rw [if_neg hn]
    rw [hs]
    simp only [not_or, Bool.not_eq_true] at hn
    obtain ⟨h1, h2⟩ := hn
    have h2' := h2
    simp only [noNode, Bool.or_eq_false_iff, decide_eq_false_iff_not, Int.not_lt, Int.not_le] at h2'
    obtain ⟨y, rfl⟩ := Int.eq_ofNat_of_zero_le h2'.1
    have hy : y < to.length := by omega
    simp only [Int.toNat_natCast]
    have hl : to[y]? = some to[y] := List.getElem?_eq_getElem hy
    by_cases hb : 65536 < b.size ∨ 4096 ≤ (to.getD y []).length
    · have e : putM to c y (fr, b) 0 = (to, c, 2) := by simp only [putM]; rw [if_pos hb]
      rw [e]
      simp only [List.getD_eq_getElem?_getD, hl, Option.getD_some] at hb
      have N1 := Lib.hid (h1 ▸ ref_none fr w h)
      have N2 := Lib.hid (h2 ▸ ref_none (y : Int) w h)
      obtain ⟨v, hv, ho, hle⟩ := h.row hl
      obtain ⟨ao, cap, rfl⟩ := own_form ho
      have ca := h.cell_to
      have cv := h.cell_val hv
      have hn17 := h.hn
      generalize to[y] = l at *
      clear e hs h1 h2 h2' h hv ho hl
      by_cases hb' : 65536 < b.size
      · clear hb
        go_enter Try.func22, Try.ntmps22
        go_wp2_with fail
        refine N1.out.mono ?_
        rintro e w' ⟨rfl, rfl⟩
        go_wp2_with fail
        refine N2.out.mono ?_
        rintro e w' ⟨rfl, rfl⟩
        go_wp2_with fail
        go_ret
        exact ⟨rfl, stay⟩
      · have hb2 := hb.resolve_left hb'
        clear hb
        go_enter Try.func22, Try.ntmps22
        go_wp2_with fail
        refine N1.out.mono ?_
        rintro e w' ⟨rfl, rfl⟩
        go_wp2_with fail
        refine N2.out.mono ?_
        rintro e w' ⟨rfl, rfl⟩
        go_wp2_with fail
        go_ret
        exact ⟨rfl, stay⟩
    · have e : putM to c y (fr, b) 0 = (to.set y (to[y] ++ [(fr, b)]), c.set 0 (wrap64 (c.getD 0 0 + 1)), 0) := by simp only [putM]; rw [if_neg hb]; simp [List.getD_eq_getElem?_getD, hl]
      rw [e]
      simp only [List.getD_eq_getElem?_getD, hl, Option.getD_some, not_or, Nat.not_lt, Nat.not_le] at hb
      exact ref_send_yes fr y b to[y] w h hl h1 hb.1 hb.2

/-- Every packet on its way is short. -/
def Short (to : List (List Pk)) : Prop := ∀ l ∈ to, ∀ p ∈ l, p.2.size ≤ 65536

set_option maxRecDepth 100000 in
set_option maxHeartbeats 1000000 in
theorem ref_copy {a t vals to c} (x i : Int) (w : World) (h : RefRep w a t vals to c) (hsh : Short to) :
    Calls Try.prog 25 #[.pointer (some ⟨a, 0, none⟩), .int .i64 x, .int .i64 i] w fun e w' => e = .returned (.int .i64 (copyM to c x i).2.2) ∧
      RefPost w w' a t vals (copyM to c x i).1 (copyM to c x i).2.1 := by
  have H := Lib.hid (ref_get x i w h)
  have no : ((getM to x i).2 = 180 ∨ (getM to x i).2 = 5) → Calls Try.prog 25 #[.pointer (some ⟨a, 0, none⟩), .int .i64 x, .int .i64 i] w fun e w' => e = .returned (.int .i64 (copyM to c x i).2.2) ∧
      RefPost w w' a t vals (copyM to c x i).1 (copyM to c x i).2.1 := by
    intro hne
    have hs : copyM to c x i = (to, c, (getM to x i).2) := by simp only [copyM]; rw [if_neg]; rcases hne with h | h <;> rw [h] <;> decide
    rw [hs]
    have hne' := getM_ne to x i hne
    clear hne hs
    generalize getM to x i = q at *
    obtain ⟨⟨fr, s⟩, e0⟩ := q
    simp only at H hne' ⊢
    go_enter Try.func25, Try.ntmps25
    go_wp2_with fail
    refine H.out.mono ?_
    rintro e w1 ⟨rfl, hk⟩
    clear H
    go_wp2_with fail
    go_ret
    exact ⟨rfl, vals, h.keep (hk.alloc _) (by simp), NetStep.same (hk.alloc _)⟩
  rcases getM_cases to x i with h1 | h1 | ⟨y, j, l, p, rfl, rfl, hl, hp, hg⟩
  · exact no (.inl h1.1)
  · exact no (.inr h1.1)
  · have hs : copyM to c y j = putM to c y p 2 := by simp [copyM, hg]
    rw [hs]
    have hps : p.2.size ≤ 65536 := hsh l (List.mem_of_getElem? hl) p (List.mem_of_getElem? hp)
    by_cases hb : 4096 ≤ l.length
    · have e : putM to c y p 2 = (to, c, 2) := by simp only [putM]; rw [if_pos]; right; simpa [List.getD_eq_getElem?_getD, hl] using hb
      rw [e]
      rw [hg] at H
      obtain ⟨fr, s⟩ := p
      simp only at H
      obtain ⟨v, hv, ho, hle⟩ := h.row hl
      obtain ⟨ao, cap, rfl⟩ := own_form ho
      have hne' : ((0 : Int) != 0) = false := rfl
      have Hv := Lib.hid hv
      have hyl : y < to.length := (List.getElem?_eq_some_iff.1 hl).1
      have hn17 := h.hn
      have Hr := Lib.hid h
      clear no hs e hl hp hg hv ho h hsh hps
      go_enter Try.func25, Try.ntmps25
      go_wp2_with fail
      refine H.out.mono ?_
      rintro e w1 ⟨rfl, hk⟩
      clear H
      have hR := Hr.out.keep hk (by simp)
      have ca := hR.cell_to
      have cv := hR.cell_val Hv.out
      have ga := heap_lt hR.ha
      have gt := heap_lt hR.ht
      clear hR
      go_wp2_with fail
      go_ret
      exact ⟨rfl, vals, Hr.out.keep (hk.alloc _) (by simp), NetStep.same (hk.alloc _)⟩
    · obtain ⟨fr, s⟩ := p
      have e : putM to c y (fr, s) 2 = (to.set y (l ++ [(fr, s)]), c.set 2 (wrap64 (c.getD 2 0 + 1)), 0) := by
        simp only [putM]; rw [if_neg]
        · simp [List.getD_eq_getElem?_getD, hl]
        · simp only [List.getD_eq_getElem?_getD, hl, Option.getD_some, not_or]
          simp only at hps
          omega
      rw [e]
      exact ref_copy_yes y j fr s l w h hl hg (by omega)

end Go.Proofs.Ytgkdlpbnhjfkdaa
