/- A tree's tokens, any; Write. Conditions: those of each theorem. -/
import Derived.Test.YtefcmijobbgpbaaGreatDoorExR
import Derived.Test.YtefcmijobbgpbaaGreatDoorExM
import Derived.Test.YtefcmijobbgpbaaGreatDoorExL
namespace Go.Proofs.YtefcmijobbgpbaaGreatDoor
open Go.RowKit

theorem tokens_leaf (O B a : Nat) (p : PartR) (outer : Bool) (w : World) (hG : GlobX w) (hm : isM p = true) (hT : TreeAt w O B (.leaf p) a) :
    Calls Tryz.prog 28 #[.pointer (some ⟨a, 0, none⟩), .bool outer] w fun e w' => TokOut w.heap.size (leafToks p) e w' ∧ Keeps [] w w' := by
  rcases hT.2.2 with h | h | h
  · exact tokens_num O B a p outer w h hT
  · exact tokens_text O B a p outer w h hT
  · obtain ⟨h0, h5, _⟩ := isM_field hm h
    by_cases hst : p.stage.data.toList = []
    · exact tokens_own O B a p outer w hG h h0 h5 hst hT
    · exact tokens_stage O B a p outer w hG h h0 h5 hst hT

theorem tokens_tree (O : Nat) : ∀ (x : Ex), x.good → x.parts.length ≤ 200 → ∀ (B a : Nat) (outer : Bool) (w : World), GlobX w → OpsAt w O → TreeAt w O B x a →
    Calls Tryz.prog 28 #[.pointer (some ⟨a, 0, none⟩), .bool outer] w fun e w' => TokOut w.heap.size (x.toks outer) e w' ∧ Keeps [] w w'
  | .leaf p, hg, _, B, a, outer, w, hG, _, hT => tokens_leaf O B a p outer w hG (Ex.good_leaf hg) hT
  | .neg p x, hg, hl, B, a, outer, w, hG, hO, hT => by
    have hl' : x.parts.length ≤ 200 := by simp only [Ex.parts, List.length_cons] at hl; omega
    have := toks_len x false
    exact tokens_neg O B a p x outer w hG hO (by omega) (fun B' b w' hG' hO' hT' => tokens_tree O x (Ex.good_neg hg).2 hl' B' b false w' hG' hO' hT') hT
  | .bin p x y, hg, hl, B, a, outer, w, hG, hO, hT => by
    simp only [Ex.parts, List.length_cons, List.length_append] at hl
    have h1 := toks_len x false
    have h2 := toks_len y false
    exact tokens_bin O B a p x y outer w hG hO (by omega) (fun B' b w' hG' hO' hT' => tokens_tree O x (Ex.good_bin hg).2.1 (by omega) B' b false w' hG' hO' hT') (fun B' b w' hG' hO' hT' => tokens_tree O y (Ex.good_bin hg).2.2 (by omega) B' b false w' hG' hO' hT') hT

/-! ### Write -/
def writeM (l : List PartR) : Except Int (List UInt8) := match wholeM l with
  | none => .error 110
  | some t => joinM (t.toks true)

theorem fieldWord_ok (f : Int) : (fieldWord f).size ≤ 4 := by
  unfold fieldWord
  rcases Nat.lt_or_ge f.toNat 6 with h | h
  · have hc : f.toNat = 0 ∨ f.toNat = 1 ∨ f.toNat = 2 ∨ f.toNat = 3 ∨ f.toNat = 4 ∨ f.toNat = 5 := by omega
    rcases hc with h | h | h | h | h | h <;> rw [h] <;> decide
  · rw [List.getD_eq_getElem?_getD, List.getElem?_eq_none (by exact h)]
    decide

theorem opAt_sign (k : Int) : (opAt k).sign.size ≤ 3 := by
  unfold opAt
  rcases Nat.lt_or_ge (opN k) 9 with h | h
  · have hc : opN k = 0 ∨ opN k = 1 ∨ opN k = 2 ∨ opN k = 3 ∨ opN k = 4 ∨ opN k = 5 ∨ opN k = 6 ∨ opN k = 7 ∨ opN k = 8 := by omega
    rcases hc with h | h | h | h | h | h | h | h | h <;> rw [h] <;> decide
  · rw [List.getD_eq_getElem?_getD, List.getElem?_eq_none (by exact h)]
    decide

theorem tokR_small {k : Int} {s : ByteArray} (h : s.size ≤ 140737488351232) : (⟨k, s, 0, 0⟩ : TokR).ok := ⟨by simp, by simp, h⟩

theorem leafToks_ok {p : PartR} (hp : p.ok) : ∀ x ∈ leafToks p, x.ok := by
  intro x hx
  unfold leafToks at hx
  have hw : (wordT (fieldWord p.field)).ok := tokR_small (by have := fieldWord_ok p.field; omega)
  split at hx
  · simp only [List.mem_singleton] at hx
    subst hx
    exact ⟨hp.1, hp.2.1, Nat.zero_le _⟩
  · split at hx
    · simp only [List.mem_singleton] at hx
      subst hx
      exact tokR_small hp.2.2.1
    · split at hx
      · simp only [List.mem_singleton] at hx
        subst hx
        exact hw
      · simp only [List.mem_cons, List.not_mem_nil, or_false] at hx
        rcases hx with rfl | rfl | rfl
        · exact tokR_small hp.2.2.2
        · exact tokR_small (by decide)
        · exact hw

theorem mid_ok (k : Int) : (midT k).ok := by
  have := opAt_sign k
  unfold midT
  split
  · exact tokR_small (by omega)
  · exact tokR_small (by omega)

theorem toks_ok : ∀ (t : Ex) (o : Bool), (∀ x ∈ t.parts, x.ok) → ∀ x ∈ t.toks o, x.ok
  | .leaf p, o, h, x, hx => leafToks_ok (h p (by simp [Ex.parts])) x hx
  | .neg p a, o, h, x, hx => by
    have ha := toks_ok a false (fun y hy => h y (by simp [Ex.parts, hy]))
    have hb : ∀ s ∈ [bNot, bOpen, bShut], ∀ k, (⟨k, s, 0, 0⟩ : TokR).ok := fun s hs k => tokR_small (by simp at hs; rcases hs with rfl | rfl | rfl <;> decide)
    cases o
    · simp only [Ex.toks, fenced, Bool.false_eq_true, if_false, List.mem_cons, List.mem_append, List.not_mem_nil, or_false] at hx
      rcases hx with rfl | (rfl | hx) | rfl
      · exact hb _ (by simp) _
      · exact hb _ (by simp) _
      · exact ha x hx
      · exact hb _ (by simp) _
    · simp only [Ex.toks, fenced, if_true, List.mem_cons] at hx
      rcases hx with rfl | hx
      · exact hb _ (by simp) _
      · exact ha x hx
  | .bin p a b, o, h, x, hx => by
    have ha := toks_ok a false (fun y hy => h y (by simp [Ex.parts, hy]))
    have hb' := toks_ok b false (fun y hy => h y (by simp [Ex.parts, hy]))
    have hb : ∀ s ∈ [bOpen, bShut], ∀ k, (⟨k, s, 0, 0⟩ : TokR).ok := fun s hs k => tokR_small (by simp at hs; rcases hs with rfl | rfl <;> decide)
    cases o
    · simp only [Ex.toks, fenced, Bool.false_eq_true, if_false, List.mem_cons, List.mem_append, List.not_mem_nil, or_false] at hx
      rcases hx with rfl | (hx | rfl | hx) | rfl
      · exact hb _ (by simp) _
      · exact ha x hx
      · exact mid_ok _
      · exact hb' x hx
      · exact hb _ (by simp) _
    · simp only [Ex.toks, fenced, if_true, List.mem_cons, List.mem_append] at hx
      rcases hx with hx | rfl | hx
      · exact ha x hx
      · exact mid_ok _
      · exact hb' x hx

set_option maxHeartbeats 4000000 in
set_option maxRecDepth 100000 in
theorem write_any (l : List PartR) (v : Value) (w : World) (hG : GlobX w) (hok : ∀ x ∈ l, x.ok) (hA : ArgPart w v l) :
    Calls Tryz.prog 11 #[v] w fun e w' => e = .returned (.tuple #[.string (joinS (writeM l)), .int .i64 (joinC (writeM l))]) ∧ Keeps [] w w' := by
  have HW := Lib.hid (whole_any l v w hG hok hA)
  have HG := Lib.hid hG
  obtain ⟨ao, cap, rfl, _, _⟩ := hA
  unfold writeM
  cases hw : wholeM l with
  | none =>
    rw [hw] at HW
    clear hw hG
    go_enter Tryz.func11, Tryz.ntmps11
    go_wp2_with (go_at_call 25; refine HW.out.mono ?_; rintro e w2 ⟨h, hk2⟩; have h := h.none_form; subst h)
    go_returns
    exact ⟨rfl, hk2⟩
  | some t =>
    rw [hw] at HW
    have hp := wholeM_parts hw
    have HT := fun O B a w hG hO hT => Lib.hid (tokens_tree O t (wholeM_good hw) (by rw [← hp.1]; exact hp.2) B a true w hG hO hT)
    have htok : ∀ x ∈ t.toks true, x.ok := toks_ok t true (by rw [← hp.1]; exact hok)
    have HJ := fun v w hG hA => Lib.hid (join_form (l := t.toks true) (v := v) w hG htok hA)
    simp only
    generalize joinS (joinM (t.toks true)) = sj at *
    generalize joinC (joinM (t.toks true)) = cj at *
    clear hw hG hp htok hok
    go_enter Tryz.func11, Tryz.ntmps11
    go_wp2_with (first
      | (go_at_call 25; refine HW.out.mono ?_; rintro e w2 ⟨h, hk2⟩; obtain ⟨O, a, h, hO, hB, hT⟩ := h.some_form; subst h; have HO2 := Lib.hid hO; have HT2 := Lib.hid hT; clear hO hT)
      | (go_at_call 28; refine (HT _ _ _ _ (HG.out.keep hk2) HO2.out HT2.out).out.mono ?_; rintro e w3 ⟨⟨ao3, n3, cp3, h3, hl3, hown3⟩, hk3⟩; subst h3; have HA3 := Lib.hid (ArgTok.of_own hown3 hl3); clear hown3)
      | (go_at_call 27; refine (HJ _ _ (HG.out.glob.keep (hk2.then hk3)) HA3.out).out.mono ?_; rintro e w4 ⟨rfl, hk4⟩))
    go_returns
    exact ⟨rfl, (hk2.then hk3).then hk4⟩

end Go.Proofs.YtefcmijobbgpbaaGreatDoor
