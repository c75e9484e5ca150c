/- Two slices of tokens whose places are struck, one after the other. -/
import Derived.Test.YtfoeadiejcheiaaDoorLawF
namespace Go.Proofs.YtfoeadiejcheiaaDoor
open Go.RowKit

/-- From k on the tokens still stand as they came. -/
def TokFrom (w : World) (g k : Nat) (l : List TokR) : Prop :=
  ∀ (j : Nat) (x : TokR), k ≤ j → l[j]? = some x → w.cell? ⟨g, 0 + j * 4, none⟩ = some (.int .i64 x.kind) ∧ w.cell? ⟨g, 0 + j * 4 + 1, none⟩ = some (.string x.s) ∧ w.cell? ⟨g, 0 + j * 4 + 2, none⟩ = some (.int .i64 x.n) ∧ w.cell? ⟨g, 0 + j * 4 + 3, none⟩ = some (.int .i64 x.at_)

theorem TokFrom.of {w : World} {g : Nat} {l : List TokR} (h : TokSl w g 0 l) (k : Nat) : TokFrom w g k l := fun j x _ hx => h j x hx

theorem set_miss {w : World} {b o b' o' : Nat} {v u : Value} (h : w.cell? ⟨b, o, none⟩ = some v) (hne : b ≠ b' ∨ o ≠ o') : (w.setCell ⟨b', o', none⟩ u).cell? ⟨b, o, none⟩ = some v := by
  rw [World.cell?_setCell_other]
  · exact h
  · intro e
    cases e
    rcases hne with h | h <;> exact h rfl

theorem set_hit {w : World} {b o : Nat} {v u : Value} (h : w.cell? ⟨b, o, none⟩ = some v) : (w.setCell ⟨b, o, none⟩ u).cell? ⟨b, o, none⟩ = some u := World.cell?_setCell_same w _ _ h

theorem TokFrom.miss {w : World} {g k : Nat} {l : List TokR} (h : TokFrom w g k l) (g' o : Nat) (u : Value) (hne : g ≠ g' ∨ o < k * 4) : TokFrom (w.setCell ⟨g', o, none⟩ u) g k l := fun j x hj hx => by
  obtain ⟨h0, h1, h2, h3⟩ := h j x hj hx
  have hm : ∀ i, g ≠ g' ∨ 0 + j * 4 + i ≠ o := fun i => by
    rcases hne with h | h
    · exact .inl h
    · exact .inr (by omega)
  exact ⟨set_miss h0 (hm 0), set_miss h1 (hm 1), set_miss h2 (hm 2), set_miss h3 (hm 3)⟩

/-- One step: both places struck. -/
theorem strike {w : World} {g g' k : Nat} {l l' : List TokR} {x x' : TokR} (hne : g ≠ g') (h : TokFrom w g k l) (h' : TokFrom w g' k l') (hx : l[k]? = some x) (hx' : l'[k]? = some x') :
    ∃ w2, w2 = (w.setCell ⟨g, 0 + k * 4 + 3, none⟩ (.int .i64 0)).setCell ⟨g', 0 + k * 4 + 3, none⟩ (.int .i64 0) ∧
      (w2.cell? ⟨g, 0 + k * 4, none⟩ = some (.int .i64 x.kind) ∧ w2.cell? ⟨g, 0 + k * 4 + 1, none⟩ = some (.string x.s) ∧ w2.cell? ⟨g, 0 + k * 4 + 2, none⟩ = some (.int .i64 x.n) ∧ w2.cell? ⟨g, 0 + k * 4 + 3, none⟩ = some (.int .i64 0)) ∧
      (w2.cell? ⟨g', 0 + k * 4, none⟩ = some (.int .i64 x'.kind) ∧ w2.cell? ⟨g', 0 + k * 4 + 1, none⟩ = some (.string x'.s) ∧ w2.cell? ⟨g', 0 + k * 4 + 2, none⟩ = some (.int .i64 x'.n) ∧ w2.cell? ⟨g', 0 + k * 4 + 3, none⟩ = some (.int .i64 0)) ∧
      TokFrom w2 g (k + 1) l ∧ TokFrom w2 g' (k + 1) l' := by
  refine ⟨_, rfl, ?_, ?_, ?_, ?_⟩
  · obtain ⟨h0, h1, h2, h3⟩ := h k x (Nat.le_refl _) hx
    exact ⟨set_miss (set_miss h0 (.inr (by omega))) (.inl hne), set_miss (set_miss h1 (.inr (by omega))) (.inl hne), set_miss (set_miss h2 (.inr (by omega))) (.inl hne), set_miss (set_hit h3) (.inl hne)⟩
  · obtain ⟨h0, h1, h2, h3⟩ := h' k x' (Nat.le_refl _) hx'
    exact ⟨set_miss (set_miss h0 (.inl hne.symm)) (.inr (by omega)), set_miss (set_miss h1 (.inl hne.symm)) (.inr (by omega)), set_miss (set_miss h2 (.inl hne.symm)) (.inr (by omega)), set_hit (set_miss h3 (.inl hne.symm))⟩
  · have h1 : TokFrom w g (k + 1) l := fun j x hj hx => h j x (by omega) hx
    exact (h1.miss g _ _ (.inr (by omega))).miss g' _ _ (.inl hne)
  · have h1 : TokFrom w g' (k + 1) l' := fun j x hj hx => h' j x (by omega) hx
    exact (h1.miss g _ _ (.inl hne.symm)).miss g' _ _ (.inr (by omega))

end Go.Proofs.YtfoeadiejcheiaaDoor
