/- Contracts of Take, Lose, Send, Copy, Way. Conditions: those of each theorem. -/
import Derived.Test.YtgkdlpbnhjfkdaaNetF
namespace Go.Proofs.Ytgkdlpbnhjfkdaa
open Go.RowKit

/-- The net at a is (to, c): somewhere. -/
def NetPost (w w' : World) (a t : Nat) (vals : List Value) (to : List (List Pk)) (c : List Int) : Prop := ∃ vals', NetRep w' a t vals' to c ∧ NetStep w w' a t vals vals'

theorem pull_any {a t vals to c} (x i : Int) (k : Nat) (w : World) (h : NetRep w a t vals to c) (hk : k < 4) :
    Calls Try.prog 21 #[.pointer (some ⟨a, 0, none⟩), .int .i64 x, .int .i64 i, .int .i64 k] w fun e w' => e = .returned (.tuple #[.agg #[.int .i64 (getM to x i).1.1, .string (getM to x i).1.2], .int .i64 (getM to x i).2]) ∧
      NetPost w w' a t vals (pullM to c x i k).1 (pullM to c x i k).2 := by
  rcases getM_cases to x i with h1 | h1 | ⟨y, j, l, p, rfl, rfl, hl, hp, hg⟩
  · refine (pull_no x i k w h (.inl h1.1)).mono fun e w' ⟨he, hk⟩ => ⟨he, vals, ?_, NetStep.same hk⟩
    have : pullM to c x i k = (to, c) := by simp [pullM, h1.1]
    rw [this]; exact h.keep hk (by simp)
  · refine (pull_no x i k w h (.inr h1.1)).mono fun e w' ⟨he, hk⟩ => ⟨he, vals, ?_, NetStep.same hk⟩
    have : pullM to c x i k = (to, c) := by simp [pullM, h1.1]
    rw [this]; exact h.keep hk (by simp)
  · rw [hg]
    refine (pull_yes y j k l p w h hl hp hk hg).mono fun e w' ⟨he, vals', h1, h2⟩ => ⟨he, vals', ?_, h2⟩
    have : pullM to c y j k = (to.set y (l.eraseIdx j), c.set k (wrap64 (c.getD k 0 + 1))) := by simp [pullM, hg, List.getD_eq_getElem?_getD, hl]
    rw [this]; exact h1

theorem NetPost.alloc {w w' : World} {a t vals to c} (h : NetPost w w' a t vals to c) (o : Obj) : NetPost w (w'.alloc o) a t vals to c := by
  obtain ⟨v, h1, h2⟩ := h
  have hk : Keeps [] w' (w'.alloc o) := (Keeps.refl _ _).alloc _
  exact ⟨v, h1.keep hk (by simp), h2.trans (NetStep.same hk)⟩
theorem NetPost.drew {w w' : World} {a t vals to c} (h : NetPost w w' a t vals to c) : NetPost w w'.drew a t vals to c := by
  obtain ⟨v, h1, h2⟩ := h
  have hk : Keeps [] w' w'.drew := (Keeps.refl _ _).drew
  exact ⟨v, h1.keep hk (by simp), h2.trans (NetStep.same hk)⟩

set_option maxHeartbeats 400000 in
theorem take_any {a t vals to c} (x i : Int) (w : World) (h : NetRep w a t vals to c) :
    Calls Try.prog 11 #[.pointer (some ⟨a, 0, none⟩), .int .i64 x, .int .i64 i] w fun e w' => e = .returned (.tuple #[.int .i64 (getM to x i).1.1, .string (getM to x i).1.2, .int .i64 (getM to x i).2]) ∧
      NetPost w w' a t vals (pullM to c x i 3).1 (pullM to c x i 3).2 := by
  have H := Lib.hid (pull_any x i 3 w h (by omega))
  clear h
  generalize pullM to c x i 3 = r at *
  generalize getM to x i = q at *
  obtain ⟨⟨fr, s⟩, e0⟩ := q
  simp only at H ⊢
  go_enter Try.func11, Try.ntmps11
  go_wp2_with fail
  refine H.out.mono ?_
  rintro e w1 ⟨rfl, hp⟩
  clear H
  go_wp2_with fail
  refine wp_region_chain (fun w' => w'.cell? ⟨w1.heap.size, 0, none⟩ = some (.int .i64 fr) ∧ w'.cell? ⟨w1.heap.size, 1, none⟩ = some (.string s)) [] [(0, 0), (1, 1), (2, 0), (3, 1), (4, 0), (5, 0), (6, 0), (7, 0)] (by kernel_rfl) (by kernel_rfl) (fun _ d _ _ _ h => by cases d <;> exact h) (by go_simp) ?_
  repeat (first
    | (refine wpC_pure (v := ?_) rfl (by rfl) ?_ ?_
       rotate_left 1
       · (intro w; go_simp; try with_reducible rfl)
       try simp only [Act.put, List.setIfInBounds_toArray, List.set_cons_zero, List.set_cons_succ, List.getElem_toArray, List.getElem_cons_succ, List.getElem_cons_zero])
    | (refine wpC_held (v := ?_) rfl (by rfl) ?_ ?_
       rotate_left 1
       · (rintro w ⟨hs1, hs2⟩; go_simp; try with_reducible rfl)
       try simp only [Act.put, List.setIfInBounds_toArray, List.set_cons_zero, List.set_cons_succ, List.getElem_toArray, List.getElem_cons_succ, List.getElem_cons_zero]))
  refine wpC_nil ?_
  go_wp2_with fail
  go_ret3
  exact ⟨rfl, (hp.alloc _).drew⟩

set_option maxHeartbeats 400000 in
theorem lose_any {a t vals to c} (x i : Int) (w : World) (h : NetRep w a t vals to c) :
    Calls Try.prog 17 #[.pointer (some ⟨a, 0, none⟩), .int .i64 x, .int .i64 i] w fun e w' => e = .returned (.int .i64 (getM to x i).2) ∧
      NetPost w w' a t vals (pullM to c x i 1).1 (pullM to c x i 1).2 := by
  have H := Lib.hid (pull_any x i 1 w h (by omega))
  clear h
  generalize pullM to c x i 1 = r at *
  generalize getM to x i = q at *
  obtain ⟨⟨fr, s⟩, e0⟩ := q
  simp only at H ⊢
  go_enter Try.func17, Try.ntmps17
  go_wp2_with fail
  refine H.out.mono ?_
  rintro e w1 ⟨rfl, hp⟩
  clear H
  go_wp2_with fail
  go_ret
  exact ⟨rfl, hp.alloc _⟩

def putM (to : List (List Pk)) (c : List Int) (y : Nat) (p : Pk) (k : Nat) : List (List Pk) × List Int × Int :=
  if 65536 < p.2.size ∨ 4096 ≤ (to.getD y []).length then (to, c, 2) else (to.set y (to.getD y [] ++ [p]), c.set k (wrap64 (c.getD k 0 + 1)), 0)

theorem put_any {a t vals to c} (y k : Nat) (fr : Int) (b : ByteArray) (w : World) (h : NetRep w a t vals to c) (hy : y < to.length) (hk : k < 4) :
    Calls Try.prog 20 #[.pointer (some ⟨a, 0, none⟩), .int .i64 y, .agg #[.int .i64 fr, .string b], .int .i64 k] w fun e w' => e = .returned (.int .i64 (putM to c y (fr, b) k).2.2) ∧
      NetPost w w' a t vals (putM to c y (fr, b) k).1 (putM to c y (fr, b) k).2.1 := by
  have hl : to[y]? = some to[y] := List.getElem?_eq_getElem hy
  by_cases hb : 65536 < b.size ∨ 4096 ≤ (to.getD y []).length
  · have : putM to c y (fr, b) k = (to, c, 2) := by simp only [putM]; rw [if_pos hb]
    rw [this]
    exact (put_no a t y vals to c to[y] fr k b w h hl (by simpa [List.getD_eq_getElem?_getD, hl] using hb)).mono fun e w' ⟨he, hk⟩ => ⟨he, vals, h.keep hk (by simp), NetStep.same hk⟩
  · have : putM to c y (fr, b) k = (to.set y (to[y] ++ [(fr, b)]), c.set k (wrap64 (c.getD k 0 + 1)), 0) := by simp only [putM]; rw [if_neg hb]; simp [List.getD_eq_getElem?_getD, hl]
    rw [this]
    have hb' : b.size ≤ 65536 ∧ (to[y]).length < 4096 := by simpa [List.getD_eq_getElem?_getD, hl] using hb
    refine (put_yes a t y vals to c to[y] fr k b w h hl hb'.1 hb'.2 hk).mono fun e w' ⟨he, v', h1, h2, h3⟩ => ⟨he, _, h1, h2, h3⟩

def sendM (to : List (List Pk)) (c : List Int) (fr x : Int) (b : ByteArray) : List (List Pk) × List Int × Int :=
  if noNode to.length fr = true ∨ noNode to.length x = true then (to, c, 180) else putM to c x.toNat (fr, b) 0

set_option maxHeartbeats 400000 in
theorem send_any {a t vals to c} (fr x : Int) (b : ByteArray) (w : World) (h : NetRep w a t vals to c) :
    Calls Try.prog 9 #[.pointer (some ⟨a, 0, none⟩), .int .i64 fr, .int .i64 x, .string b] w fun e w' => e = .returned (.int .i64 (sendM to c fr x b).2.2) ∧
      NetPost w w' a t vals (sendM to c fr x b).1 (sendM to c fr x b).2.1 := by
  have hk0 : Keeps [] w (w.alloc (.cells #[.int .i64 fr, .int .i64 x] 3 (0, 0))) := (Keeps.refl _ _).alloc _
  have Hn := Lib.hid (nodes_any a to.length to.length w.heap.size 0 2 2 _ [fr, x] _ (by omega) (hk0.cell h.cell_to (by simp)) rfl (cells_ints [fr, x] (heap_top rfl) rfl))
  rw [allNodes_two] at Hn
  have H := Lib.hid h
  clear h
  by_cases hn : noNode to.length fr = true ∨ noNode to.length x = true
  · have hs : sendM to c fr x b = (to, c, 180) := by simp only [sendM]; rw [if_pos hn]
    rw [hs]
    have hb : (!noNode to.length fr && !noNode to.length x) = false := by rcases hn with h | h <;> simp [h]
    rw [hb] at Hn
    clear hs hn hb
    go_enter Try.func9, Try.ntmps9
    go_wp2_with fail
    refine Hn.out.mono ?_
    rintro e w1 ⟨rfl, hk⟩
    clear Hn
    go_wp2_with fail
    go_ret
    exact ⟨rfl, vals, H.out.keep (hk0.then hk) (by simp), NetStep.same (hk0.then hk)⟩
  · have hs : sendM to c fr x b = putM to c x.toNat (fr, b) 0 := by simp only [sendM]; rw [if_neg hn]
    rw [hs]
    have hb : (!noNode to.length fr && !noNode to.length x) = true := by simpa using hn
    rw [hb] at Hn
    have hx : noNode to.length x = false := by simp only [not_or] at hn; simpa using hn.2
    simp only [noNode, Bool.or_eq_false_iff, decide_eq_false_iff_not, Int.not_lt, Int.not_le] at hx
    obtain ⟨y, rfl⟩ := Int.eq_ofNat_of_zero_le hx.1
    have hy : y < to.length := by omega
    simp only [Int.toNat_natCast]
    clear hs hn hb hx
    have Hp0 := Lib.hid (fun w1 h1 => put_any (a := a) (t := t) (vals := vals) (c := c) y 0 fr b w1 h1 hy (by omega))
    generalize putM to c y (fr, b) 0 = r at *
    go_enter Try.func9, Try.ntmps9
    go_wp2_with fail
    refine Hn.out.mono ?_
    rintro e w1 ⟨rfl, hk⟩
    have Hp := Lib.hid (Hp0.out w1 (H.out.keep (hk0.then hk) (by simp)))
    have hk1 := hk0.then hk
    clear Hn hk hk0 Hp0
    go_wp2_with fail
    refine Hp.out.mono ?_
    rintro e w2 ⟨rfl, v2, hp1, hp2⟩
    clear Hp
    go_wp2_with fail
    go_ret
    exact ⟨rfl, v2, hp1, (NetStep.same hk1).trans hp2⟩

def copyM (to : List (List Pk)) (c : List Int) (x i : Int) : List (List Pk) × List Int × Int :=
  if (getM to x i).2 = 0 then putM to c x.toNat (getM to x i).1 2 else (to, c, (getM to x i).2)

set_option maxHeartbeats 400000 in
theorem copy_any {a t vals to c} (x i : Int) (w : World) (h : NetRep w a t vals to c) :
    Calls Try.prog 15 #[.pointer (some ⟨a, 0, none⟩), .int .i64 x, .int .i64 i] w fun e w' => e = .returned (.int .i64 (copyM to c x i).2.2) ∧
      NetPost w w' a t vals (copyM to c x i).1 (copyM to c x i).2.1 := by
  have H := Lib.hid (at_any x i w h)
  have no : ((getM to x i).2 = 180 ∨ (getM to x i).2 = 5) → Calls Try.prog 15 #[.pointer (some ⟨a, 0, none⟩), .int .i64 x, .int .i64 i] w fun e w' => e = .returned (.int .i64 (copyM to c x i).2.2) ∧
      NetPost w w' a t vals (copyM to c x i).1 (copyM to c x i).2.1 := by
    intro hne
    have hs : copyM to c x i = (to, c, (getM to x i).2) := by simp only [copyM]; rw [if_neg]; rcases hne with h | h <;> rw [h] <;> decide
    rw [hs]
    have hne' : ((getM to x i).2 != 0) = true := by rcases hne with h | h <;> rw [h] <;> rfl
    clear hne hs
    generalize getM to x i = q at *
    obtain ⟨⟨fr, s⟩, e0⟩ := q
    simp only at H hne' ⊢
    go_enter Try.func15, Try.ntmps15
    go_wp2_with fail
    refine H.out.mono ?_
    rintro e w1 ⟨rfl, hk⟩
    clear H
    go_wp2_with fail
    go_ret
    exact ⟨rfl, vals, h.keep (hk.alloc _) (by simp), NetStep.same (hk.alloc _)⟩
  rcases getM_cases to x i with h1 | h1 | ⟨y, j, l, p, rfl, rfl, hl, hp, hg⟩
  · exact no (.inl h1.1)
  · exact no (.inr h1.1)
  · have hs : copyM to c y j = putM to c y p 2 := by simp [copyM, hg]
    rw [hs]
    rw [hg] at H
    have hy : y < to.length := (List.getElem?_eq_some_iff.1 hl).1
    obtain ⟨fr, b⟩ := p
    have Hp0 := Lib.hid (fun w1 h1 => put_any (a := a) (t := t) (vals := vals) (c := c) y 2 fr b w1 h1 hy (by omega))
    generalize putM to c y (fr, b) 2 = r at *
    simp only at H
    have h0 : ((0 : Int) != 0) = false := rfl
    have Hh := Lib.hid h
    clear no hs hl hp hg h
    go_enter Try.func15, Try.ntmps15
    go_wp2_with fail
    refine H.out.mono ?_
    rintro e w1 ⟨rfl, hk⟩
    have hk1 := hk.alloc (.cells #[.int .i64 fr, .string b] 68 (0, 0))
    have Hp := Lib.hid (Hp0.out _ (Hh.out.keep hk1 (by simp)))
    clear H hk Hp0
    go_wp2_with fail
    refine Hp.out.mono ?_
    rintro e w2 ⟨rfl, v2, hp1, hp2⟩
    clear Hp
    go_wp2_with fail
    go_ret
    exact ⟨rfl, v2, hp1, (NetStep.same hk1).trans hp2⟩

def wayM (to : List (List Pk)) (x : Int) : Int × Int := if noNode to.length x = true then (0, 180) else ((to.getD x.toNat []).length, 0)

set_option maxHeartbeats 400000 in
theorem way_any {a t vals to c} (x : Int) (w : World) (h : NetRep w a t vals to c) :
    Calls Try.prog 18 #[.pointer (some ⟨a, 0, none⟩), .int .i64 x] w fun e w' => e = .returned (.tuple #[.int .i64 (wayM to x).1, .int .i64 (wayM to x).2]) ∧ Keeps [] w w' := by
  have hk0 : Keeps [] w (w.alloc (.cells #[.int .i64 x] 3 (0, 0))) := (Keeps.refl _ _).alloc _
  have Hn := Lib.hid (nodes_any a to.length to.length w.heap.size 0 1 1 _ [x] _ (by omega) (hk0.cell h.cell_to (by simp)) rfl (cells_ints [x] (heap_top rfl) rfl))
  rw [allNodes_one] at Hn
  by_cases hn : noNode to.length x = true
  · have hs : wayM to x = (0, 180) := by simp only [wayM]; rw [if_pos hn]
    rw [hs]
    rw [hn] at Hn
    clear hs hn h
    go_enter Try.func18, Try.ntmps18
    go_wp2_with fail
    refine Hn.out.mono ?_
    rintro e w1 ⟨rfl, hk⟩
    clear Hn
    go_wp2_with fail
    go_ret2
    exact ⟨rfl, hk0.then hk⟩
  · have hs : wayM to x = (((to.getD x.toNat []).length : Int), 0) := by simp only [wayM]; rw [if_neg hn]
    have hn' : noNode to.length x = false := by simpa using hn
    rw [hs]
    rw [hn'] at Hn
    simp only [noNode, Bool.or_eq_false_iff, decide_eq_false_iff_not, Int.not_lt, Int.not_le] at hn'
    obtain ⟨y, rfl⟩ := Int.eq_ofNat_of_zero_le hn'.1
    have hy : y < to.length := by omega
    have hl : to[y]? = some to[y] := List.getElem?_eq_getElem hy
    obtain ⟨v, hv, ho, hle⟩ := h.row hl
    obtain ⟨ao, cap, rfl⟩ := own_form ho
    simp only [Int.toNat_natCast, List.getD_eq_getElem?_getD, hl, Option.getD_some]
    generalize to[y] = l at *
    have h1 := h.cell_to
    have h2 := h.cell_val hv
    have hn17 := h.hn
    clear hs hn hn' h ho hl hv
    go_enter Try.func18, Try.ntmps18
    go_wp2_with fail
    refine Hn.out.mono ?_
    rintro e w1 ⟨rfl, hk⟩
    have h1' := (hk0.then hk).cell h1 (by simp)
    have h2' := (hk0.then hk).cell h2 (by simp)
    clear Hn h1 h2
    go_wp2_with fail
    go_ret2
    exact ⟨rfl, hk0.then hk⟩

end Go.Proofs.Ytgkdlpbnhjfkdaa
