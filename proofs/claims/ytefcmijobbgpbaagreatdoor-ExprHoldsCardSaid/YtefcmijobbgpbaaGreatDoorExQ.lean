/- The tokens of operations. Conditions: those of each theorem. -/
import Derived.Test.YtefcmijobbgpbaaGreatDoorExN
namespace Go.Proofs.YtefcmijobbgpbaaGreatDoor
open Go.RowKit

theorem rowOf_app (l l' : List TokR) : rowOf (l ++ l') = rowOf l ++ rowOf l' := by simp [rowOf]

/-- What the recursion is told. -/
def TokIH (O : Nat) (x : Ex) : Prop := ∀ (B b : Nat) (w : World), GlobX w → OpsAt w O → TreeAt w O B x b → Calls Tryz.prog 28 #[.pointer (some ⟨b, 0, none⟩), .bool false] w fun e w' => TokOut w.heap.size (x.toks false) e w' ∧ Keeps [] w w'

theorem TokOut.of {B n cp : Nat} {ao : Option Addr} {l : List TokR} {w' : World} (hl : l.length = n) (h : w'.ownsRow B 91 4 (.slice ao n cp) n (rowOf l)) : TokOut B l (.returned (.slice ao n cp)) w' := ⟨ao, n, cp, rfl, hl, h⟩

set_option maxHeartbeats 4000000 in
set_option maxRecDepth 100000 in
/-- A not. -/
theorem tokens_neg (O B a : Nat) (p : PartR) (x : Ex) (outer : Bool) (w : World) (hG : GlobX w) (hO : OpsAt w O) (hlen : (x.toks false).length ≤ 600) (IH : TokIH O x) (hT : TreeAt w O B (.neg p x) a) :
    Calls Tryz.prog 28 #[.pointer (some ⟨a, 0, none⟩), .bool outer] w fun e w' => TokOut w.heap.size ((Ex.neg p x).toks outer) e w' ∧ Keeps [] w w' := by
  have hk0 := Keeps.refl [] w
  obtain ⟨_, h13, lb, c, b, hn, _, hc1, hcm, hlb, hTx⟩ := hT
  obtain ⟨c0, c1, c2, c3, c4, c5, c6, c7⟩ := node_cells hn
  have HW := fun s w => Lib.hid (tokWord_any s w)
  have HG := Lib.hid hG
  have HO1 := Lib.hid hO
  have HI := Lib.hid IH
  have HTX := Lib.hid hTx
  obtain ⟨n, hn1⟩ : ∃ n, (x.toks false).length = n := ⟨_, rfl⟩
  have HN := Lib.hid hn1
  rw [hn1] at hlen
  obtain ⟨kd, pn, ps, st, f⟩ := p
  simp only at h13 c0 c1 c2 c3 c4
  subst h13
  clear hn hTx hG hO hn1
  go_enter Tryz.func28, Tryz.ntmps28
  go_wp2_with fail
  have d6 := hk0.drew.cell c6 (by simp)
  have dl := hk0.drew.cell hlb (by simp)
  refine wp_region_tree (fun W' => W'.cell? ⟨a, 6, none⟩ = some (.slice (some ⟨lb, 0, none⟩) 1 c) ∧ W'.cell? ⟨lb, 0, none⟩ = some (.pointer (some ⟨b, 0, none⟩))) [9] (.op 0 0 (.op 3 0 (.op 4 0 (.op 5 0 (.op 6 1 (.op 7 0 (.op 8 1 (.op 1 2 (.alt 2 (.op 9 3 (.op 10 3 (.op 11 0 (.done)))) 9 (.op 2 2 (.op 10 3 (.op 11 0 (.done))))))))))))) (by kernel_rfl) (by kernel_rfl) (fun _ d _ _ _ h => by cases d <;> exact h) ⟨d6, dl⟩ ?_
  repeat (first
    | (refine wpT_pure (v := ?_) rfl (by rfl) ?_ ?_
       rotate_left 1
       · (intro w; go_simp; try with_reducible rfl)
       try simp only [Act.put, List.setIfInBounds_toArray, List.set_cons_zero, List.set_cons_succ, List.getElem_toArray, List.getElem_cons_succ, List.getElem_cons_zero])
    | (refine wpT_held (v := ?_) rfl (by rfl) ?_ ?_
       rotate_left 1
       · (rintro w ⟨hs0, hs1⟩; go_simp; try with_reducible rfl)
       try simp only [Act.put, List.setIfInBounds_toArray, List.set_cons_zero, List.set_cons_succ, List.getElem_toArray, List.getElem_cons_succ, List.getElem_cons_zero]))
  refine wpT_step rfl (by rfl) (fun K hK => ?_)
  go_simp
  refine (HW _ _).out.mono ?_
  rintro e w1 ⟨rfl, hk1⟩
  have hk1 : Keeps [] w w1 := hk0.drew.trans hk1 (by simp)
  refine hK _ _ ⟨hk1.cell c6 (by simp), hk1.cell hlb (by simp)⟩ ?_
  clear hK K
  try simp only [Act.put, List.setIfInBounds_toArray, List.set_cons_zero, List.set_cons_succ, List.getElem_toArray, List.getElem_cons_succ, List.getElem_cons_zero]
  refine wpT_alt rfl rfl (by rfl) (by rfl) (fun K hK => ?_) (fun K hK => ?_)
  · skip
    go_simp
    refine hK _ _ ⟨(hk1.alloc _).cell c6 (by simp), (hk1.alloc _).cell hlb (by simp)⟩ ?_
    clear hK K
    try simp only [Act.put, List.setIfInBounds_toArray, List.set_cons_zero, List.set_cons_succ, List.getElem_toArray, List.getElem_cons_succ, List.getElem_cons_zero]
    refine wpT_last rfl (by rfl) (fun K hK => ?_)
    go_simp
    have hk2 := hk1.alloc (.cells #[.int .i64 1, .string ⟨#[110, 111, 116]⟩, .int .i64 0, .int .i64 0] 91 (0, 0))
    refine (HI.out _ b _ (HG.out.keep hk2) (HO1.out.keep hk2 (by simp)) (HTX.out.keep hk2)).mono ?_
    rintro e w3 ⟨⟨ao, q, cp, rfl, hq, hown⟩, hk3⟩
    obtain rfl : n = q := HN.out.symm.trans hq
    have hk4 := hk2.then hk3
    have hbl := hk3.heap (heap_alloc_new w1 (.cells #[.int .i64 1, .string ⟨#[110, 111, 116]⟩, .int .i64 0, .int .i64 0] 91 (0, 0))) (by simp)
    have hownL := own_kept (own_mono (own_new w1 #[.int .i64 1, .string ⟨#[110, 111, 116]⟩, .int .i64 0, .int .i64 0] 91 4 1 rfl (by decide)) hk1.size) hk3 (by simp)
    refine hK _ _ ?_
    clear hK K
    try simp only [Act.put, List.setIfInBounds_toArray, List.set_cons_zero, List.set_cons_succ, List.getElem_toArray, List.getElem_cons_succ, List.getElem_cons_zero]
    refine wpT_last rfl (by rfl) (fun K hK => ?_)
    refine wp_append_any rtTok _ _ (by rfl) w.heap.size (.slice (some ⟨w1.heap.size, 0, none⟩) 1 1) 1 [.int .i64 1, .string ⟨#[110, 111, 116]⟩, .int .i64 0, .int .i64 0] (by rfl) hownL _ n (rowOf (x.toks false)) (by rfl) (SlC.of_own hown) (rowOf_one _) (by omega) (by unfold maxLen; omega) hk4.size ?_
    intro ao1 cp1 w9 hown1 hgrow hat hnil
    have hk9 := hk4.grown hgrow (fun k h => .inr (by cases h; exact hk1.size))
    refine hK _ _ ?_
    clear hK K
    try simp only [Act.put, List.setIfInBounds_toArray, List.set_cons_zero, List.set_cons_succ, List.getElem_toArray, List.getElem_cons_succ, List.getElem_cons_zero]
    repeat (first
      | (refine wpT_pure (v := ?_) rfl (by rfl) ?_ ?_
         rotate_left 1
         · (intro w; go_simp; try with_reducible rfl)
         try simp only [Act.put, List.setIfInBounds_toArray, List.set_cons_zero, List.set_cons_succ, List.getElem_toArray, List.getElem_cons_succ, List.getElem_cons_zero]))
    refine wpT_done ?_
    have HO : Hid (w9.ownsRow w.heap.size 91 4 (.slice ao1 (1 + n) cp1) (1 + n) (rowOf (wordT bNot :: x.toks false))) := Lib.hid hown1
    have HK := Lib.hid hk9
    clear hown1 hgrow hat hnil hk9 hk4
    clear hown hownL hbl hk3 hk2 hk1
    cases outer with
    | true =>
      go_wp2_with fail
      go_returns
      exact ⟨TokOut.of (by simp [Ex.toks, fenced, HN.out]; omega) HO.out, HK.out⟩
    | false =>
      have HSg := fun s w => Lib.hid (tokSign_any s w)
      go_wp2_with (first
        | (go_at_call 46; refine (HSg _ _).out.mono ?_; rintro e wa ⟨rfl, hka⟩)
        | (at_builtin
           first
            | (have hka1 := (HK.out.then hka).alloc (.cells #[.int .i64 4, .string ⟨#[40]⟩, .int .i64 0, .int .i64 0] 91 (0, 0))
               have hla := own_kept HO.out (hka.alloc (.cells #[.int .i64 4, .string ⟨#[40]⟩, .int .i64 0, .int .i64 0] 91 (0, 0))) (by simp)
               refine list_append_any rtTok (by rfl) _ _ (by rfl) w.heap.size (.slice (some ⟨wa.heap.size, 0, none⟩) 1 1) 1 [.int .i64 4, .string ⟨#[40]⟩, .int .i64 0, .int .i64 0] (by rfl) (own_mono (own_new wa #[.int .i64 4, .string ⟨#[40]⟩, .int .i64 0, .int .i64 0] 91 4 1 rfl (by decide)) (HK.out.then hka).size) _ (1 + n) (rowOf (wordT bNot :: x.toks false)) (by rfl) (SlC.of_own hla) (rowOf_one _) (by omega) (by unfold maxLen; omega) hka1.size ?_
               intro aob cpb wb hownb hgrowb _ _
               have hkb := hka1.grown hgrowb (fun k h => .inr (by cases h; exact (HK.out.then hka).size))
               have HOB := Lib.hid hownb
               have HKB := Lib.hid hkb
               clear hka hka1 hla hownb hgrowb hkb)
            | (have hka1 := (HKB.out.then hka).alloc (.cells #[.int .i64 4, .string ⟨#[41]⟩, .int .i64 0, .int .i64 0] 91 (0, 0))
               refine list_append_any rtTok (by rfl) _ _ (by rfl) w.heap.size (.slice aob (1 + (1 + n)) cpb) (1 + (1 + n)) _ (by rfl) (own_kept HOB.out (hka.alloc _) (by simp)) (.slice (some ⟨wa.heap.size, 0, none⟩) 1 1) 1 [.int .i64 4, .string ⟨#[41]⟩, .int .i64 0, .int .i64 0] (by rfl) (SlC.of_block (cs := #[.int .i64 4, .string ⟨#[41]⟩, .int .i64 0, .int .i64 0]) (t := 91) (fr := (0, 0)) (heap_alloc_new _ _) (by rfl)) (by simp [Value.oneCell']) (by omega) (by unfold maxLen; omega) hka1.size ?_
               intro aoc cpc wc hownc hgrowc _ _
               have hkc := hka1.grown hgrowc (fun k h => .inr (own_ge HOB.out h))
               have HOC := Lib.hid hownc
               have HKC := Lib.hid hkc
               clear hka hka1 hownc hgrowc hkc)))
      go_returns
      exact ⟨TokOut.of (by simp [Ex.toks, fenced, HN.out]; omega) (by have h := HOC.out; simpa [Ex.toks, fenced, rowOf, signT, bOpen, bShut] using h), HKC.out⟩
  · skip
    go_simp
    refine (HI.out _ b _ (HG.out.keep hk1) (HO1.out.keep hk1 (by simp)) (HTX.out.keep hk1)).mono ?_
    rintro e w3 ⟨⟨ao, q, cp, rfl, hq, hown⟩, hk3⟩
    obtain rfl : n = q := HN.out.symm.trans hq
    have hk2 := hk1.then hk3
    refine hK _ _ ⟨hk2.cell c6 (by simp), hk2.cell hlb (by simp)⟩ ?_
    clear hK K
    try simp only [Act.put, List.setIfInBounds_toArray, List.set_cons_zero, List.set_cons_succ, List.getElem_toArray, List.getElem_cons_succ, List.getElem_cons_zero]
    refine wpT_step rfl (by rfl) (fun K hK => ?_)
    go_simp
    have hk4 := hk2.alloc (.cells #[.int .i64 1, .string ⟨#[110, 111, 116]⟩, .int .i64 0, .int .i64 0] 91 (0, 0))
    refine hK _ _ ⟨hk4.cell c6 (by simp), hk4.cell hlb (by simp)⟩ ?_
    clear hK K
    try simp only [Act.put, List.setIfInBounds_toArray, List.set_cons_zero, List.set_cons_succ, List.getElem_toArray, List.getElem_cons_succ, List.getElem_cons_zero]
    have hownK := own_kept hown ((Keeps.refl [] w3).alloc (.cells #[.int .i64 1, .string ⟨#[110, 111, 116]⟩, .int .i64 0, .int .i64 0] 91 (0, 0))) (by simp)
    refine wpT_last rfl (by rfl) (fun K hK => ?_)
    refine wp_append_any rtTok _ _ (by rfl) w.heap.size (.slice (some ⟨w3.heap.size, 0, none⟩) 1 1) 1 [.int .i64 1, .string ⟨#[110, 111, 116]⟩, .int .i64 0, .int .i64 0] (by rfl) (own_mono (own_new w3 #[.int .i64 1, .string ⟨#[110, 111, 116]⟩, .int .i64 0, .int .i64 0] 91 4 1 rfl (by decide)) hk2.size) _ n (rowOf (x.toks false)) (by rfl) (SlC.of_own hownK) (rowOf_one _) (by omega) (by unfold maxLen; omega) hk4.size ?_
    intro ao1 cp1 w9 hown1 hgrow hat hnil
    have hk9 := hk4.grown hgrow (fun k h => .inr (by cases h; exact hk2.size))
    refine hK _ _ ?_
    clear hK K
    try simp only [Act.put, List.setIfInBounds_toArray, List.set_cons_zero, List.set_cons_succ, List.getElem_toArray, List.getElem_cons_succ, List.getElem_cons_zero]
    repeat (first
      | (refine wpT_pure (v := ?_) rfl (by rfl) ?_ ?_
         rotate_left 1
         · (intro w; go_simp; try with_reducible rfl)
         try simp only [Act.put, List.setIfInBounds_toArray, List.set_cons_zero, List.set_cons_succ, List.getElem_toArray, List.getElem_cons_succ, List.getElem_cons_zero]))
    refine wpT_done ?_
    have HO : Hid (w9.ownsRow w.heap.size 91 4 (.slice ao1 (1 + n) cp1) (1 + n) (rowOf (wordT bNot :: x.toks false))) := Lib.hid hown1
    have HK := Lib.hid hk9
    clear hown1 hgrow hat hnil hk9 hk4
    clear hown hownK hk3 hk2 hk1
    cases outer with
    | true =>
      go_wp2_with fail
      go_returns
      exact ⟨TokOut.of (by simp [Ex.toks, fenced, HN.out]; omega) HO.out, HK.out⟩
    | false =>
      have HSg := fun s w => Lib.hid (tokSign_any s w)
      go_wp2_with (first
        | (go_at_call 46; refine (HSg _ _).out.mono ?_; rintro e wa ⟨rfl, hka⟩)
        | (at_builtin
           first
            | (have hka1 := (HK.out.then hka).alloc (.cells #[.int .i64 4, .string ⟨#[40]⟩, .int .i64 0, .int .i64 0] 91 (0, 0))
               have hla := own_kept HO.out (hka.alloc (.cells #[.int .i64 4, .string ⟨#[40]⟩, .int .i64 0, .int .i64 0] 91 (0, 0))) (by simp)
               refine list_append_any rtTok (by rfl) _ _ (by rfl) w.heap.size (.slice (some ⟨wa.heap.size, 0, none⟩) 1 1) 1 [.int .i64 4, .string ⟨#[40]⟩, .int .i64 0, .int .i64 0] (by rfl) (own_mono (own_new wa #[.int .i64 4, .string ⟨#[40]⟩, .int .i64 0, .int .i64 0] 91 4 1 rfl (by decide)) (HK.out.then hka).size) _ (1 + n) (rowOf (wordT bNot :: x.toks false)) (by rfl) (SlC.of_own hla) (rowOf_one _) (by omega) (by unfold maxLen; omega) hka1.size ?_
               intro aob cpb wb hownb hgrowb _ _
               have hkb := hka1.grown hgrowb (fun k h => .inr (by cases h; exact (HK.out.then hka).size))
               have HOB := Lib.hid hownb
               have HKB := Lib.hid hkb
               clear hka hka1 hla hownb hgrowb hkb)
            | (have hka1 := (HKB.out.then hka).alloc (.cells #[.int .i64 4, .string ⟨#[41]⟩, .int .i64 0, .int .i64 0] 91 (0, 0))
               refine list_append_any rtTok (by rfl) _ _ (by rfl) w.heap.size (.slice aob (1 + (1 + n)) cpb) (1 + (1 + n)) _ (by rfl) (own_kept HOB.out (hka.alloc _) (by simp)) (.slice (some ⟨wa.heap.size, 0, none⟩) 1 1) 1 [.int .i64 4, .string ⟨#[41]⟩, .int .i64 0, .int .i64 0] (by rfl) (SlC.of_block (cs := #[.int .i64 4, .string ⟨#[41]⟩, .int .i64 0, .int .i64 0]) (t := 91) (fr := (0, 0)) (heap_alloc_new _ _) (by rfl)) (by simp [Value.oneCell']) (by omega) (by unfold maxLen; omega) hka1.size ?_
               intro aoc cpc wc hownc hgrowc _ _
               have hkc := hka1.grown hgrowc (fun k h => .inr (own_ge HOB.out h))
               have HOC := Lib.hid hownc
               have HKC := Lib.hid hkc
               clear hka hka1 hownc hgrowc hkc)))
      go_returns
      exact ⟨TokOut.of (by simp [Ex.toks, fenced, HN.out]; omega) (by have h := HOC.out; simpa [Ex.toks, fenced, rowOf, signT, bOpen, bShut] using h), HKC.out⟩

end Go.Proofs.YtefcmijobbgpbaaGreatDoor
