/- Stages. Conditions: those of each theorem. -/
import Derived.Test.YtefcmijobbgpbaaDoorExJ
import Derived.Test.YtefcmijobbgpbaaDoorExK
namespace Go.Proofs.YtefcmijobbgpbaaDoor
open Go.RowKit

theorem own_strs {w : World} {base cp n : Nat} {ao : Option Addr} {L : List ByteArray} (h : w.ownsRow base 9 1 (.slice ao n cp) n (L.map Value.string)) (hn : L.length = n) : ArgStr w (.slice ao n cp) L := by
  subst hn
  refine ⟨ao, cp, rfl, fun h0 => ?_, fun hne => ?_⟩
  · rcases h.2 with ⟨he, h0'⟩ | ⟨g, cap, cur, he, _⟩
    · obtain ⟨_, _, e3⟩ := Value.slice.inj he
      exact ⟨e3, List.eq_nil_of_length_eq_zero h0'⟩
    · rw [h0] at he
      obtain ⟨e1, _, _⟩ := Value.slice.inj he
      cases e1
  · rcases h.2 with ⟨he, h0'⟩ | ⟨g, cap, cur, he, hb, hg, hnc, hm, _, _⟩
    · exact absurd (List.eq_nil_of_length_eq_zero h0') hne
    · cases he
      refine ⟨g, 0, rfl, fun j x hx => ?_, hnc, by unfold maxLen at hm; exact hm⟩
      have := h.cells rfl j (.string x) (by simp [hx])
      rw [addr_add] at this
      exact this

theorem stagesFrom_step {l : List PartR} {k : Nat} {p : PartR} (hp : l[k]? = some p) (out : List ByteArray) : stagesFrom (l.drop k) out = stagesFrom (l.drop (k + 1)) (if p.stage.data.toList = [] then out else if hasM out p.stage then out else out ++ [p.stage]) := by
  have hk : k < l.length := by
    rcases Nat.lt_or_ge k l.length with h | h
    · exact h
    · rw [List.getElem?_eq_none h] at hp; cases hp
  rw [List.drop_eq_getElem_cons hk]
  have e : l[k] = p := by rw [List.getElem?_eq_getElem hk] at hp; exact Option.some.inj hp
  rw [e]
  rfl

def StagesOut (B : Nat) (l : List PartR) (e : Ending) (w' : World) : Prop :=
  match wholeM l with
  | none => e = .returned (.tuple #[.slice none 0 0, .int .i64 110])
  | some _ => ∃ ao n cp, e = .returned (.tuple #[.slice ao n cp, .int .i64 0]) ∧ (stagesM l).length = n ∧ w'.ownsRow B 9 1 (.slice ao n cp) n ((stagesM l).map Value.string)

theorem StagesOut.none_form {B : Nat} {l : List PartR} {e : Ending} {w' : World} (h : StagesOut B l e w') (hw : wholeM l = none) : e = .returned (.tuple #[.slice none 0 0, .int .i64 110]) := by
  unfold StagesOut at h; rw [hw] at h; exact h
theorem StagesOut.some_form {B : Nat} {l : List PartR} {t : Ex} {e : Ending} {w' : World} (h : StagesOut B l e w') (hw : wholeM l = some t) : ∃ ao n cp, e = .returned (.tuple #[.slice ao n cp, .int .i64 0]) ∧ (stagesM l).length = n ∧ w'.ownsRow B 9 1 (.slice ao n cp) n ((stagesM l).map Value.string) := by
  unfold StagesOut at h; rw [hw] at h; exact h

end Go.Proofs.YtefcmijobbgpbaaDoor
