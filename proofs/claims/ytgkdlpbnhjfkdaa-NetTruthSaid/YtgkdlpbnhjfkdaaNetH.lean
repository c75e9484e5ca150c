/- Contract of Counts. Conditions: those of each theorem. -/
import Derived.Test.YtgkdlpbnhjfkdaaNetG
namespace Go.Proofs.Ytgkdlpbnhjfkdaa
open Go.RowKit

theorem four_of_len {c : List Int} (h : c.length = 4) : ∃ c0 c1 c2 c3, c = [c0, c1, c2, c3] := by
  match c, h with
  | [a, b, c, d], _ => exact ⟨a, b, c, d, rfl⟩

set_option maxHeartbeats 1000000 in
theorem counts_any {a t vals to c} (w : World) (h : NetRep w a t vals to c) :
    Calls Try.prog 14 #[.pointer (some ⟨a, 0, none⟩)] w fun e w' => e = .returned (.agg (c.map (.int .i64)).toArray) ∧ Keeps [] w w' := by
  obtain ⟨c0, c1, c2, c3, rfl⟩ := four_of_len h.hc
  have ha := h.ha
  have ga := heap_lt ha
  have h0 : w.cell? ⟨a, 1, none⟩ = some (.int .i64 c0) := by rw [cell_of_row w a 1 _ _ _ ha]; rfl
  have h1 : w.cell? ⟨a, 2, none⟩ = some (.int .i64 c1) := by rw [cell_of_row w a 2 _ _ _ ha]; rfl
  have h2 : w.cell? ⟨a, 3, none⟩ = some (.int .i64 c2) := by rw [cell_of_row w a 3 _ _ _ ha]; rfl
  have h3 : w.cell? ⟨a, 4, none⟩ = some (.int .i64 c3) := by rw [cell_of_row w a 4 _ _ _ ha]; rfl
  have na : w.heap.size ≠ a := by omega
  clear h ha
  go_enter Try.func14, Try.ntmps14
  go_wp2
  refine wp_loop_rounds 5 ?_
  rw [rounds_succ]
  go_wp2_with fail
  refine (load_any a 1 c0 _ (by go_simp)).mono ?_
  rintro e w' ⟨rfl, rfl⟩
  go_wp2_with fail
  rw [rounds_succ]
  go_wp2_with fail
  refine (load_any a 2 c1 _ (by go_simp)).mono ?_
  rintro e w' ⟨rfl, rfl⟩
  go_wp2_with fail
  rw [rounds_succ]
  go_wp2_with fail
  refine (load_any a 3 c2 _ (by go_simp)).mono ?_
  rintro e w' ⟨rfl, rfl⟩
  go_wp2_with fail
  rw [rounds_succ]
  go_wp2_with fail
  refine (load_any a 4 c3 _ (by go_simp)).mono ?_
  rintro e w' ⟨rfl, rfl⟩
  go_wp2_with fail
  rw [rounds_succ]
  go_wp2_with fail
  exact bodyPost_ret (v := .agg #[.int .i64 c0, .int .i64 c1, .int .i64 c2, .int .i64 c3]) (by simp [results, Try.results14, go_sem]) rfl ⟨rfl, by
    repeat (refine Keeps.setCell ?_ (.inr (by simp)) _)
    exact (Keeps.refl _ _).alloc _⟩

end Go.Proofs.Ytgkdlpbnhjfkdaa
