/- ExprHolds: for every input the law returns true, and what came in reads as before. No conditions but the row's own. -/
import Derived.Test.YtefcmijobbgpbaaGreatDoorExHO
import Derived.Test.YtefcmijobbgpbaaGreatDoorExAP
import Derived.Test.YtefcmijobbgpbaaGreatDoorExGS
import Derived.Deep.DeepWitnessRowRef
namespace Go.Proofs.YtefcmijobbgpbaaGreatDoor
open Go.ChangeShapes Go.WideShapes Go.ChangeAt Go.RowKit

theorem exprHolds_reads (os : Os) {H : Type} (enc : TypeId × Value → H) : DataW.whole enc Tryz.prog ((laidWorld os).forCall (fun _ _ => 0) ⟨#[], #[.slice none 0 0, .agg #[.string ⟨#[]⟩, .string ⟨#[]⟩, .int .i64 0, .int .i64 0, .int .i64 0, .int .i64 0, .string ⟨#[]⟩], .agg #[.slice none 0 0, .slice none 0 0]], []⟩).memory Tryz.f4.params.toList Rows.exprHoldsSpec.vars false #[Value.slice none 0 0, Value.agg #[.string ⟨#[]⟩, .string ⟨#[]⟩, .int .i64 0, .int .i64 0, .int .i64 0, .int .i64 0, .string ⟨#[]⟩], Value.agg #[.slice none 0 0, .slice none 0 0]].toList 8 = some ([.nil, .agg [.lit (.string []), .lit (.string []), .agg [.lit (.int .i64 0), .lit (.int .i64 0), .lit (.int .i64 0), .lit (.int .i64 0)], .lit (.string [])], .agg [.nil, .nil]], [], []) := by kernel_rfl

set_option maxRecDepth 100000 in
theorem exprHolds_lifted (os : Os) (started : os.Started) (H : Type) (enc : TypeId × Value → H) (F : Stop.Interp) :
    ReturnsInHanded {} Tryz.checked os 4 .any ((OpenSpec.ofChange Rows.exprHoldsSpec).preRow enc Tryz.prog Tryz.f4 Rows.exprHoldsRow.domain false Rows.exprHoldsRow.laid) (((OpenSpec.ofChange Rows.exprHoldsSpec).at F).post enc Tryz.prog Tryz.f4 false true false false) := by
  refine returnsInHanded_of_row (C := Tryz.checked) (s := OpenSpec.ofChange Rows.exprHoldsSpec) Tryz.own started (by kernel_rfl) Tryz.func4
    (witness_row_atRef (enc := enc) (C := Tryz.checked) false (laidWorld os) #[.slice none 0 0, .agg #[.string ⟨#[]⟩, .string ⟨#[]⟩, .int .i64 0, .int .i64 0, .int .i64 0, .int .i64 0, .string ⟨#[]⟩], .agg #[.slice none 0 0, .slice none 0 0]] rfl (by kernel_rfl) (by kernel_rfl) (by kernel_rfl)
      (OpenSpec.preRow_of_cond 8 (exprHolds_reads os enc) (by kernel_rfl) (fun k hk => by cases hk) (by kernel_rfl) (laid_met os _))) ?_
  intro W base args ds gs before hval0 hW0 _ _ hsz0 hL _ _
  have hval : ∀ (j : Nat) t v, Tryz.f4.params[j]? = some t → args[j]? = some v → Value.okWide Tryz.prog W .any base t v := hval0
  have hW : DataW.Whole enc Tryz.prog Tryz.f4.params.toList Rows.exprHoldsSpec.vars false W args.toList ds gs before := hW0
  have hsz : (DataW.weightsEach Tryz.prog (Tryz.f4.params.toList ++ []) (ds ++ gs)).all (· ≤ reachBytes) = true := hsz0
  have hW' := hW
  obtain ⟨p, q, hA0, hV, rfl, hfz, hnd⟩ := hW
  have hA : DataW.TrodAll enc Tryz.prog W 0 (fun _ => true) true Tryz.f4.params.toList args.toList ds p := hA0
  rw [Tryz.params4] at hA hval hsz
  obtain ⟨v0, v1, v2, d0, d1, d2, p0, p1, p2, rfl, rfl, rfl, h0, h1, h2⟩ := trodAll_three hA
  obtain ⟨rfl, rfl⟩ := trodVars_none hV
  have hsz1 : (DataW.weights Tryz.prog 22 d0 ++ (DataW.weights Tryz.prog 37 d1 ++ (DataW.weights Tryz.prog 40 d2 ++ ([])))).all (· ≤ reachBytes) = true := hsz
  simp only [List.all_append, Bool.and_eq_true] at hsz1
  obtain ⟨g0, g1, g2, _⟩ := hsz1
  have key : Calls Tryz.prog 4 #[v0, v1, v2] W fun e w' => e = .returned (.bool true) ∧ Keeps [] W w' := by
    obtain ⟨s0, a0, ok0, w0⟩ := arg_parts (hval 0 22 v0 rfl rfl) h0 g0
    obtain ⟨s1, rfl, ok1⟩ := arg_event (hval 1 37 v1 rfl rfl) h1
    obtain ⟨vn2, vl2, sn2, sl2, rfl, an2, al2, wn2, wl2⟩ := arg_bound (hval 2 40 v2 rfl rfl) h2 g2
    exact exprHolds_any s0 s1 sn2 sl2 v0 vn2 vl2 W (glob_of_laid hL) ok0 a0 an2 al2 w0 wn2 wl2
  refine key.mono fun e W' ⟨he, hk⟩ => ?_
  subst he
  exact ⟨_, rfl, law_post Tryz.laidOut Tryz.underlying4 rfl (by kernel_rfl) rfl ⟨rfl, rfl, rfl⟩ hW' (hk.below (Nat.le_refl _) (by simp))⟩

theorem exprHolds_said : Rows.ExprHoldsSaid :=
  OpenClaim.holds_of_cond 4 Tryz.f4 rfl rfl rfl rfl rfl rfl rfl ⟨rfl, rfl, rfl, rfl, rfl⟩ rfl rfl rfl rfl rfl (by kernel_rfl) Tryz.func4 (by kernel_rfl)
    (of_decide_eq_true (by kernel_rfl)) (by unfold Func.isWrapper; first | (rw [if_pos (by decide +kernel)]; kernel_rfl) | (rw [if_neg (by decide +kernel)]; exact ⟨rfl, rfl⟩))
    (fun os started H enc _ F => by rw [OpenClaim.pre_eq_preRow]; exact exprHolds_lifted os started H enc F)

theorem exprHolds_plain (f : FuncId) (fn : Func) (hf : Tryz.pinned.checked.prog.funcNamed "weaver/weaverlaw11.ExprHolds" = some f) (hfn : Tryz.pinned.checked.prog.funcs[f]? = some fn) :
    true = Tryz.pinned.checked.prog.looks [] ∧ ∀ (j : Nat) t, fn.params[j]? = some t → Tryz.pinned.checked.prog.wantsStandIn t = false := by
  obtain rfl : f = 4 := Option.some.inj ((show Tryz.prog.funcNamed "weaver/weaverlaw11.ExprHolds" = some 4 by kernel_rfl).symm.trans hf) |>.symm
  obtain rfl : fn = Tryz.f4 := (Option.some.inj (Tryz.func4.symm.trans hfn)).symm
  refine ⟨by kernel_rfl, fun j t ht => ?_⟩
  rw [Tryz.params4] at ht
  have hm := Array.mem_of_getElem? ht
  simp at hm
  have hm2 : t = 22 ∨ t = 37 ∨ t = 40 := by omega
  rcases hm2 with rfl | rfl | rfl
  · exact (show Tryz.prog.wantsStandIn 22 = false by kernel_rfl)
  · exact (show Tryz.prog.wantsStandIn 37 = false by kernel_rfl)
  · exact (show Tryz.prog.wantsStandIn 40 = false by kernel_rfl)

theorem exprHolds_card : Rows.ExprHoldsCardSaid :=
  Claim7.holds_tied_plain_at .later [] _ _ _ _ exprHolds_said (fun _ h => by cases h) (by kernel_rfl) (fun _ h => by cases h) exprHolds_row_tie rfl ⟨rfl, rfl⟩ (by kernel_rfl) rfl exprHolds_plain (by kernel_rfl)

end Go.Proofs.YtefcmijobbgpbaaGreatDoor
