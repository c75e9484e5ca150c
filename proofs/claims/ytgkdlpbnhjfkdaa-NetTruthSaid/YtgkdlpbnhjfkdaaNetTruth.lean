/- NetTruth: for all calls the law returns true, and the slice reads as before. No conditions. -/
import Derived.Test.YtgkdlpbnhjfkdaaLaw
import Derived.Test.YtgkdlpbnhjfkdaaTruD
namespace Go.Proofs.Ytgkdlpbnhjfkdaa
open Go.ChangeShapes Go.WideShapes Go.ChangeAt Go.RowKit Go.ChangeMaps

set_option maxRecDepth 100000 in
theorem netTruth_lifted (os : Os) (started : os.Started) (H : Type) (enc : TypeId × Value → H) :
    ReturnsInHanded {} Try.checked os 6 .any (Rows.netTruthSpec.pre6 enc Try.prog Try.f6 Rows.netTruthRow.domain false) (Rows.netTruthSpec.post enc Try.prog Try.f6 false true false false) := by
  refine returnsInHanded_of_change (C := Try.checked) Try.own started (by kernel_rfl) Try.func6
    (ChangeSpec.witness6 (enc := enc) (C := Try.checked) false ⟨#[], #[.slice none 0 0], []⟩ 8 (by kernel_rfl) (by kernel_rfl) (by kernel_rfl) (by kernel_rfl)) ?_
  intro W base args ds gs before hval0 hW hcnd _
  have hval : ∀ (j : Nat) t v, Try.f6.params[j]? = some t → args[j]? = some v → Value.okWide Try.prog W .any base t v := hval0
  have hW' := hW
  obtain ⟨p, q, hA0, hV, rfl, hfz, hnd⟩ := hW
  have hA : DataW.TrodAll enc Try.prog W 0 (fun _ => true) true Try.f6.params.toList args.toList ds p := hA0
  rw [Try.params6] at hA hval
  obtain ⟨v0, d0, rfl, rfl, h0⟩ := trodAll_one hA
  obtain ⟨rfl, rfl⟩ := trodVars_none hV
  have key : Calls Try.prog 6 #[v0] W fun e w' => e = .returned (.bool true) ∧ Keeps [] W w' := by
    obtain ⟨ao, n, c, b, o, L, rfl, hl, hm, hL⟩ := arg_acts (hval 0 34 v0 rfl rfl) h0
    exact netTruth_any ao n c b o L W hl hm hL
  refine key.mono fun e W' ⟨he, hk⟩ => ?_
  subst he
  exact ⟨_, rfl, law_post Try.laidOut Try.underlying4 rfl (by kernel_rfl) rfl ⟨rfl, rfl, rfl⟩ hW' (hk.below (Nat.le_refl _) (by simp))⟩

theorem netTruth_holds : Rows.NetTruthSaid :=
  OpenClaim.holds_of_wide 6 Try.f6 rfl rfl rfl rfl rfl rfl rfl ⟨rfl, rfl, rfl, rfl, rfl⟩ rfl rfl rfl rfl rfl (by kernel_rfl) Try.func6 (by kernel_rfl)
    (of_decide_eq_true (by kernel_rfl)) (by unfold Func.isWrapper; first | (rw [if_pos (by decide +kernel)]; kernel_rfl) | (rw [if_neg (by decide +kernel)]; exact ⟨rfl, rfl⟩))
    (fun os started H enc _ => netTruth_lifted os started H enc)

end Go.Proofs.Ytgkdlpbnhjfkdaa
