/- ExprBinds: for every input the law returns true, and what came in reads as before. No conditions but the row's own. -/
import Derived.Test.YtefcmijobbgpbaaGreatDoorExBC
import Derived.Test.YtefcmijobbgpbaaGreatDoorExGS
import Derived.Deep.DeepWitnessRowRef
namespace Go.Proofs.YtefcmijobbgpbaaGreatDoor
open Go.ChangeShapes Go.WideShapes Go.ChangeAt Go.RowKit

theorem exprBinds_reads (os : Os) {H : Type} (enc : TypeId × Value → H) : DataW.whole enc Tryz.prog ((laidWorld os).forCall (fun _ _ => 0) ⟨#[], #[.int .i64 0, .int .i64 0], []⟩).memory Tryz.f6.params.toList Rows.exprBindsSpec.vars false #[Value.int .i64 0, Value.int .i64 0].toList 8 = some ([.lit (.int .i64 0), .lit (.int .i64 0)], [], []) := by kernel_rfl

set_option maxRecDepth 100000 in
theorem exprBinds_lifted (os : Os) (started : os.Started) (H : Type) (enc : TypeId × Value → H) (F : Stop.Interp) :
    ReturnsInHanded {} Tryz.checked os 6 .any ((OpenSpec.ofChange Rows.exprBindsSpec).preRow enc Tryz.prog Tryz.f6 Rows.exprBindsRow.domain false Rows.exprBindsRow.laid) (((OpenSpec.ofChange Rows.exprBindsSpec).at F).post enc Tryz.prog Tryz.f6 false true false false) := by
  refine returnsInHanded_of_row (C := Tryz.checked) (s := OpenSpec.ofChange Rows.exprBindsSpec) Tryz.own started (by kernel_rfl) Tryz.func6
    (witness_row_atRef (enc := enc) (C := Tryz.checked) false (laidWorld os) #[.int .i64 0, .int .i64 0] rfl (by kernel_rfl) (by kernel_rfl) (by kernel_rfl)
      (OpenSpec.preRow_of_cond 8 (exprBinds_reads os enc) (by kernel_rfl) (fun k hk => by cases hk) (by kernel_rfl) (laid_met os _))) ?_
  intro W base args ds gs before hval0 hW0 _ _ hsz0 hL _ _
  have hval : ∀ (j : Nat) t v, Tryz.f6.params[j]? = some t → args[j]? = some v → Value.okWide Tryz.prog W .any base t v := hval0
  have hW : DataW.Whole enc Tryz.prog Tryz.f6.params.toList Rows.exprBindsSpec.vars false W args.toList ds gs before := hW0
  have hsz : (DataW.weightsEach Tryz.prog (Tryz.f6.params.toList ++ []) (ds ++ gs)).all (· ≤ reachBytes) = true := hsz0
  have hW' := hW
  obtain ⟨p, q, hA0, hV, rfl, hfz, hnd⟩ := hW
  have hA : DataW.TrodAll enc Tryz.prog W 0 (fun _ => true) true Tryz.f6.params.toList args.toList ds p := hA0
  rw [Tryz.params6] at hA hval hsz
  obtain ⟨v0, v1, d0, d1, p0, p1, rfl, rfl, rfl, h0, h1⟩ := trodAll_two hA
  obtain ⟨rfl, rfl⟩ := trodVars_none hV
  have hsz1 : (DataW.weights Tryz.prog 2 d0 ++ (DataW.weights Tryz.prog 2 d1 ++ ([]))).all (· ≤ reachBytes) = true := hsz
  simp only [List.all_append, Bool.and_eq_true] at hsz1
  obtain ⟨g0, g1, _⟩ := hsz1
  have key : Calls Tryz.prog 6 #[v0, v1] W fun e w' => e = .returned (.bool true) ∧ Keeps [] W w' := by
    obtain ⟨s0, rfl, rfl, _, x0⟩ := open_int Tryz.underlying2 (hval 0 2 v0 rfl rfl) h0
    have w0 : -9223372036854775808 ≤ s0 ∧ s0 ≤ 9223372036854775807 := by
      have hb : IntKind.i64.min ≤ s0 ∧ s0 ≤ IntKind.i64.max := by simpa [Lit.wf, decide_eq_true_eq] using x0
      have b1 : IntKind.i64.min = -9223372036854775808 := by decide
      have b2 : IntKind.i64.max = 9223372036854775807 := by decide
      rwa [b1, b2] at hb
    obtain ⟨s1, rfl, rfl, _, x1⟩ := open_int Tryz.underlying2 (hval 1 2 v1 rfl rfl) h1
    have w1 : -9223372036854775808 ≤ s1 ∧ s1 ≤ 9223372036854775807 := by
      have hb : IntKind.i64.min ≤ s1 ∧ s1 ≤ IntKind.i64.max := by simpa [Lit.wf, decide_eq_true_eq] using x1
      have b1 : IntKind.i64.min = -9223372036854775808 := by decide
      have b2 : IntKind.i64.max = 9223372036854775807 := by decide
      rwa [b1, b2] at hb
    exact exprBinds_any s0 s1 w0 W (glob_of_laid hL)
  refine key.mono fun e W' ⟨he, hk⟩ => ?_
  subst he
  exact ⟨_, rfl, law_post Tryz.laidOut Tryz.underlying4 rfl (by kernel_rfl) rfl ⟨rfl, rfl, rfl⟩ hW' (hk.below (Nat.le_refl _) (by simp))⟩

theorem exprBinds_said : Rows.ExprBindsSaid :=
  OpenClaim.holds_of_cond 6 Tryz.f6 rfl rfl rfl rfl rfl rfl rfl ⟨rfl, rfl, rfl, rfl, rfl⟩ rfl rfl rfl rfl rfl (by kernel_rfl) Tryz.func6 (by kernel_rfl)
    (of_decide_eq_true (by kernel_rfl)) (by unfold Func.isWrapper; first | (rw [if_pos (by decide +kernel)]; kernel_rfl) | (rw [if_neg (by decide +kernel)]; exact ⟨rfl, rfl⟩))
    (fun os started H enc _ F => by rw [OpenClaim.pre_eq_preRow]; exact exprBinds_lifted os started H enc F)

theorem exprBinds_plain (f : FuncId) (fn : Func) (hf : Tryz.pinned.checked.prog.funcNamed "weaver/weaverlaw11.ExprBinds" = some f) (hfn : Tryz.pinned.checked.prog.funcs[f]? = some fn) :
    true = Tryz.pinned.checked.prog.looks [] ∧ ∀ (j : Nat) t, fn.params[j]? = some t → Tryz.pinned.checked.prog.wantsStandIn t = false := by
  obtain rfl : f = 6 := Option.some.inj ((show Tryz.prog.funcNamed "weaver/weaverlaw11.ExprBinds" = some 6 by kernel_rfl).symm.trans hf) |>.symm
  obtain rfl : fn = Tryz.f6 := (Option.some.inj (Tryz.func6.symm.trans hfn)).symm
  refine ⟨by kernel_rfl, fun j t ht => ?_⟩
  rw [Tryz.params6] at ht
  have hm := Array.mem_of_getElem? ht
  simp at hm
  subst hm
  exact (show Tryz.prog.wantsStandIn 2 = false by kernel_rfl)

theorem exprBinds_card : Rows.ExprBindsCardSaid :=
  Claim7.holds_tied_plain_at .later [] _ _ _ _ exprBinds_said (fun _ h => by cases h) (by kernel_rfl) (fun _ h => by cases h) exprBinds_row_tie rfl ⟨rfl, rfl⟩ (by kernel_rfl) rfl exprBinds_plain (by kernel_rfl)

end Go.Proofs.YtefcmijobbgpbaaGreatDoor
