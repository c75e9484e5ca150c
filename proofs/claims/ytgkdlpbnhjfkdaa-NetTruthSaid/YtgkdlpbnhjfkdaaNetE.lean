/- Contract of slices.Delete at packets. Conditions: those of each theorem. -/
import Derived.Test.YtgkdlpbnhjfkdaaNetD
namespace Go.Proofs.Ytgkdlpbnhjfkdaa
open Go.RowKit

theorem flat_len (l : List Pk) : (l.flatMap encPk).length = l.length * 2 := by
  induction l with
  | nil => rfl
  | cons x r ih => simp [encPk, ih, Nat.add_mul]
theorem flat_take (l : List Pk) (j : Nat) : (l.flatMap encPk).take (j * 2) = (l.take j).flatMap encPk := by
  induction l generalizing j with
  | nil => simp
  | cons x r ih =>
    cases j with
    | zero => simp
    | succ j => simp [encPk, Nat.add_mul, ih]
theorem flat_drop (l : List Pk) (j : Nat) : (l.flatMap encPk).drop (j * 2) = (l.drop j).flatMap encPk := by
  induction l generalizing j with
  | nil => simp
  | cons x r ih =>
    cases j with
    | zero => simp
    | succ j => simp [encPk, Nat.add_mul, ih]

def delCur1 (l : List Pk) (j : Nat) (cur : Array Value) : Array Value := (cur.toList.take (j * 2) ++ (l.drop (j + 1)).flatMap encPk ++ cur.toList.drop (j * 2 + ((l.drop (j + 1)).flatMap encPk).length)).toArray
def delCur2 (l : List Pk) (j : Nat) (cur : Array Value) : Array Value := ((delCur1 l j cur).toList.take ((l.length - 1) * 2) ++ [Value.int .i64 0, Value.string ⟨#[]⟩] ++ (delCur1 l j cur).toList.drop ((l.length - 1) * 2 + 2)).toArray

theorem enc_one (l : List Pk) : ∀ u ∈ l.flatMap encPk, u.oneCell' = true := by
  intro u hu
  obtain ⟨p, _, hp⟩ := List.mem_flatMap.1 hu
  simp only [encPk, List.mem_cons, List.not_mem_nil, or_false] at hp
  rcases hp with rfl | rfl <;> rfl

theorem delCur1_size {l : List Pk} {j cap : Nat} {cur : Array Value} (hj : j < l.length) (hcap : l.length ≤ cap) (hs : cur.size = cap * 2) : (delCur1 l j cur).size = cap * 2 := by
  simp only [delCur1, List.size_toArray, List.length_append, List.length_take, List.length_drop, Array.length_toList, flat_len]
  omega
theorem delCur1_take {l : List Pk} {j cap : Nat} {cur : Array Value} (hj : j < l.length) (hcap : l.length ≤ cap) (hs : cur.size = cap * 2) (ht : cur.toList.take (l.length * 2) = l.flatMap encPk) :
    (delCur1 l j cur).toList.take ((l.length - 1) * 2) = (l.eraseIdx j).flatMap encPk := by
  have h1 : cur.toList.take (j * 2) = (l.take j).flatMap encPk := by
    rw [← flat_take, ← ht, List.take_take]
    congr 1
    omega
  simp only [delCur1]
  rw [h1, List.eraseIdx_eq_take_drop_succ, List.flatMap_append, List.take_append_of_le_length, List.take_of_length_le]
  · simp only [List.length_append, flat_len, List.length_take, List.length_drop]; omega
  · simp only [List.length_append, flat_len, List.length_take, List.length_drop]; omega

theorem del_append (l : List Pk) (j g cap : Nat) (cur : Array Value) (w : World) (ty : Nat) (hj : j < l.length) (hg : w.heap[g]? = some (.cells cur 68 (0, 0))) (hcap : l.length ≤ cap)
    (hs : cur.size = cap * 2) (ht : cur.toList.take (l.length * 2) = l.flatMap encPk) :
    (Builtin.append_ #[73, 73] ty #[.slice (some ⟨g, 0, none⟩) j cap, .slice (if cap = j + 1 then some ⟨g, 0, none⟩ else some ⟨g, (j + 1) * 2, none⟩) (l.length - (j + 1)) (cap - (j + 1))]).run Try.prog w =
      .ok (.slice (some ⟨g, 0, none⟩) (j + (l.length - (j + 1))) cap) (w.setRow g (delCur1 l j cur)) := by
  obtain ⟨i, z, hi, hz, hsz, hb, hzs⟩ := rt73.parts
  have hnl : ((l.drop (j + 1)).flatMap encPk).length = (l.length - (j + 1)) * i.size := by rw [flat_len, List.length_drop, hsz]
  have e : (if cap = j + 1 then (some ⟨g, 0, none⟩ : Option Addr) else some ⟨g, (j + 1) * 2, none⟩) = some (if cap = j + 1 then ⟨g, 0, none⟩ else ⟨g, (j + 1) * 2, none⟩) := by split <;> rfl
  rw [e]
  have := run_append_room (P := Try.prog) w 73 ty 68 i rt73.und hi g j cap cur hg (if cap = j + 1 then ⟨g, 0, none⟩ else ⟨g, (j + 1) * 2, none⟩) (l.length - (j + 1)) (cap - (j + 1)) ((l.drop (j + 1)).flatMap encPk) hnl ?_ (enc_one _) (by omega) ?_
  · rw [this, hsz]; rfl
  · intro k u hk
    by_cases hc : cap = j + 1
    · have : l.drop (j + 1) = [] := by apply List.drop_eq_nil_of_le; omega
      rw [this] at hk; simp at hk
    · rw [if_neg hc]
      have hadd : (⟨g, (j + 1) * 2, none⟩ : Addr).add k = ⟨g, (j + 1) * 2 + k, none⟩ := by unfold Addr.add; split <;> simp_all
      rw [hadd, cell_of_row _ g _ _ _ _ hg]
      rw [← flat_drop, ← ht, List.getElem?_drop, List.getElem?_take] at hk
      split at hk
      · simpa using hk
      · cases hk
  · rw [hsz, flat_len, List.length_drop]; omega

theorem del_clear (l : List Pk) (j g cap c : Nat) (cur : Array Value) (w : World) (ty : Nat) (hj : j < l.length) (hg : w.heap[g]? = some (.cells cur 68 (0, 0))) (hcap : l.length ≤ cap) (hs : cur.size = cap * 2) :
    (Builtin.clear_ #[73] ty #[.slice (some ⟨g, (l.length - 1) * 2, none⟩) (l.length - (l.length - 1)) c]).run Try.prog (w.setRow g (delCur1 l j cur)) = .ok (.tuple #[]) ((w.setRow g (delCur1 l j cur)).setRow g (delCur2 l j cur)) := by
  have := run_clear_one (P := Try.prog) (w := w.setRow g (delCur1 l j cur)) (t := 73) (e := 68) (g := g) (o := (l.length - 1) * 2) (c := c) (ty := ty) (z := .agg #[.int .i64 0, .string ⟨#[]⟩]) rt73.und (fun w => by kernel_rfl) (by simp [Value.cells, Value.oneCell']) (by simp [Value.cells])
    (setRow_heap w g cur (delCur1 l j cur) 68 (0, 0) hg) (by rw [delCur1_size hj hcap hs]; simp [Value.cells]; omega)
  rw [show l.length - (l.length - 1) = 1 by omega, this]
  rfl

set_option maxHeartbeats 400000 in
theorem delete_any (l : List Pk) (j g cap : Nat) (cur : Array Value) (w : World) (hj : j < l.length) (hg : w.heap[g]? = some (.cells cur 68 (0, 0))) (hcap : l.length ≤ cap) (hm : l.length ≤ 4096) (hmax : cap ≤ maxLen)
    (hs : cur.size = cap * 2) (ht : cur.toList.take (l.length * 2) = l.flatMap encPk) :
    Calls Try.prog 36 #[.slice (some ⟨g, 0, none⟩) l.length cap, .int .i64 j, .int .i64 (j + 1)] w fun e w' => e = .returned (.slice (some ⟨g, 0, none⟩) (l.length - 1) cap) ∧
      w'.ownsRow 0 68 2 (.slice (some ⟨g, 0, none⟩) (l.length - 1) cap) (l.length - 1) ((l.eraseIdx j).flatMap encPk) ∧ Keeps [g] w w' := by
  unfold maxLen at hmax
  have hne : ((j : Int) == (j : Int) + 1) = false := by simp; omega
  obtain ⟨n, hn⟩ : ∃ n, n = l.length := ⟨_, rfl⟩
  have Ha := Lib.hid (fun ty => del_append l j g cap cur w.drew ty hj hg hcap hs ht)
  have Hc := Lib.hid (fun ty c => del_clear l j g cap c cur w.drew ty hj hg hcap hs)
  have Hm := Lib.hid (show j + (l.length - (j + 1)) = l.length - 1 by omega)
  have Ht := Lib.hid ht
  have Hs := Lib.hid hs
  have Hg := Lib.hid hg
  rw [← hn] at hj hcap hm Ha Hc Hm ⊢
  have Hn := Lib.hid hn
  clear ht hs hg hn
  go_enter Try.func36, Try.ntmps36
  go_wp2_with fail
  have b0 : (0 : Int) ≤ (j : Int) := by omega
  have b1 : (j : Int) ≤ (cap : Int) := by omega
  have b2 : (0 : Int) ≤ (j : Int) + 1 := by omega
  have b3 : (j : Int) + 1 ≤ (n : Int) := by omega
  have b4 : (n : Int) ≤ (cap : Int) := by omega
  have b5 : ((j : Int) + 1).toNat = j + 1 := by omega
  refine wp_region_chain (fun _ => True) [6] [(0, 0), (1, 0), (2, 0), (3, 0), (4, 0), (5, 0), (6, 3), (7, 0)] (by kernel_rfl) (by kernel_rfl) (fun _ d _ _ _ h => by cases d <;> exact h) trivial ?_
  repeat (first
    | (refine wpC_pure (v := ?_) rfl (by rfl) ?_ ?_
       rotate_left 1
       · (intro w; go_simp; try with_reducible rfl)
       try simp only [Act.put, List.setIfInBounds_toArray, List.set_cons_zero, List.set_cons_succ, List.getElem_toArray, List.getElem_cons_succ, List.getElem_cons_zero]))
  refine wpC_last rfl (by rfl) (fun K hK => ?_)
  refine wp_exec (exec_append rfl (by rfl) (by rfl) (Ha.out _)) (hK _ _ ?_)
  clear hK K
  try simp only [Act.put, List.setIfInBounds_toArray, List.set_cons_zero, List.set_cons_succ, List.getElem_toArray, List.getElem_cons_succ, List.getElem_cons_zero]
  repeat (first
    | (refine wpC_pure (v := ?_) rfl (by rfl) ?_ ?_
       rotate_left 1
       · (intro w; go_simp; try with_reducible rfl)
       try simp only [Act.put, List.setIfInBounds_toArray, List.set_cons_zero, List.set_cons_succ, List.getElem_toArray, List.getElem_cons_succ, List.getElem_cons_zero]))
  refine wpC_nil ?_
  rw [Hm.out]
  generalize (if cap = j + 1 then (some (⟨g, 0, none⟩ : Addr)) else some ⟨g, (j + 1) * 2, none⟩) = src
  go_wp2_with (refine list_run rfl (exec_clear rfl (by rfl) (Hc.out _ _)) ?_)
  go_ret
  refine ⟨rfl, ?_, ?_⟩
  · refine ⟨by rw [flat_len, List.length_eraseIdx_of_lt (by rw [← Hn.out]; exact hj), ← Hn.out], .inr ⟨g, cap, delCur2 l j cur, rfl, Nat.zero_le _, ?_, by omega, by unfold maxLen; exact hmax, ?_, ?_⟩⟩
    · exact setRow_heap _ g (delCur1 l j cur) _ 68 (0, 0) (setRow_heap _ g cur _ 68 (0, 0) Hg.out)
    · have h1 := delCur1_size (l := l) (j := j) (by rw [← Hn.out]; exact hj) (by rw [← Hn.out]; exact hcap) Hs.out
      simp only [delCur2, List.size_toArray, List.length_append, List.length_take, List.length_drop, Array.length_toList, h1, List.length_cons, List.length_nil, ← Hn.out]
      omega
    · have h1 := delCur1_size (l := l) (j := j) (by rw [← Hn.out]; exact hj) (by rw [← Hn.out]; exact hcap) Hs.out
      have h2 := delCur1_take (l := l) (j := j) (by rw [← Hn.out]; exact hj) (by rw [← Hn.out]; exact hcap) Hs.out Ht.out
      rw [← h2, ← Hn.out]
      simp only [delCur2, ← Hn.out]
      rw [List.append_assoc, List.take_append_of_le_length, List.take_take, Nat.min_self]
      simp only [List.length_take, Array.length_toList, h1]
      omega
  · exact ((Keeps.refl _ _).drew.setRow (.inl (by simp)) _).setRow (.inl (by simp)) _
end Go.Proofs.Ytgkdlpbnhjfkdaa
