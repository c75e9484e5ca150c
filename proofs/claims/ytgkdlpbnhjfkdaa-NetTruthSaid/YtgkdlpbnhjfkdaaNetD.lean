/- Contracts of making a net and of looking at a packet. Conditions: those of each theorem. -/
import Derived.Test.YtgkdlpbnhjfkdaaNetC
namespace Go.Proofs.Ytgkdlpbnhjfkdaa
open Go.RowKit

set_option maxHeartbeats 400000 in
theorem new_yes (n : Nat) (w : World) (h1 : 1 ≤ n) (h2 : n ≤ 17) :
    Calls Try.prog 7 #[.int .i64 n] w fun e w' => e = .returned (.tuple #[.pointer (some ⟨w.heap.size + 1, 0, none⟩), .int .i64 0]) ∧
      NetRep w' (w.heap.size + 1) w.heap.size (List.replicate n (.slice none 0 0)) (List.replicate n []) [0, 0, 0, 0] ∧ Keeps [] w w' := by
  have hmk := fun w : World => run_make_one (P := Try.prog) w (t := 56) (e := 73) (bytes := 24) (z := .slice none 0 0) Try.underlying56 (by kernel_rfl) rfl n (by omega) (by omega)
  go_enter Try.func7, Try.ntmps7
  go_wp2_with fail
  go_ret2
  refine ⟨rfl, ⟨?_, ?_, rfl, by simp, by simpa using h2, ?_, ?_⟩, ((Keeps.refl _ _).alloc _).alloc _⟩
  · refine heap_top_eq (by simp) ?_
    simp [netCells]
  · exact (Below.heap_alloc _ _ _ (by simp)).trans (heap_alloc_new _ _)
  · intro i v l hv hl
    have hv' := List.mem_of_getElem? hv
    have hl' := List.mem_of_getElem? hl
    rw [List.mem_replicate] at hv' hl'
    rw [hv'.2, hl'.2]
    exact ⟨World.ownsRow_nil _ _ _ _, by simp⟩
  · have : (List.replicate n (Value.slice none 0 0)).filterMap Value.ownBlock = [] := by
      rw [List.filterMap_eq_nil_iff]
      intro x hx
      rw [List.mem_replicate] at hx
      rw [hx.2]; rfl
    rw [this]; simp

set_option maxHeartbeats 400000 in
theorem new_no (n : Int) (w : World) (h1 : n < 1 ∨ 17 < n) :
    Calls Try.prog 7 #[.int .i64 n] w fun e w' => e = .returned (.tuple #[.pointer none, .int .i64 1]) ∧ w = w' := by
  by_cases h : n < 1
  · clear h1
    go_enter Try.func7, Try.ntmps7
    go_wp2_with fail
    go_ret2
    exact ⟨rfl, rfl⟩
  · have h2 := h1.resolve_left h
    clear h1
    go_enter Try.func7, Try.ntmps7
    go_wp2_with fail
    go_ret2
    exact ⟨rfl, rfl⟩

theorem allNodes_one (n : Nat) (x : Int) : allNodes n [x] = !noNode n x := by
  simp only [allNodes, foundAt]
  by_cases h : noNode n x = true <;> simp [h]
theorem allNodes_two (n : Nat) (x y : Int) : allNodes n [x, y] = (!noNode n x && !noNode n y) := by
  simp only [allNodes, foundAt]
  by_cases h : noNode n x = true <;> by_cases h' : noNode n y = true <;> simp [h, h']

theorem NetRep.keep {w w' : World} {S : List Nat} {a t vals to c} (h : NetRep w a t vals to c) (k : Keeps S w w') (hs : ∀ x ∈ a :: t :: vals.filterMap Value.ownBlock, x ∉ S) : NetRep w' a t vals to c :=
  ⟨k.heap h.ha (hs _ (by simp)), k.heap h.ht (hs _ (by simp)), h.hc, h.hl, h.hn, fun i v l hv hl => ⟨own_kept (h.hr i v l hv hl).1 k (fun b hb => hs _ (by simp [mem_blocks hv hb])), (h.hr i v l hv hl).2⟩, h.nd⟩

def zPk : Pk := (0, ⟨#[]⟩)
/-- A packet on its way, and what is wrong. -/
def getM (to : List (List Pk)) (x i : Int) : Pk × Int :=
  if noNode to.length x then (zPk, 180) else
    let l := to.getD x.toNat []
    if i < 0 ∨ (l.length : Int) ≤ i then (zPk, 5) else (l.getD i.toNat zPk, 0)


theorem flat_get0 : ∀ {l : List Pk} {j : Nat} {p : Pk}, l[j]? = some p → (l.flatMap encPk)[j * 2]? = some (.int .i64 p.1) := by
  intro l
  induction l with
  | nil => intro j p h; simp at h
  | cons x r ih =>
    intro j p h
    cases j with
    | zero => simp only [List.getElem?_cons_zero, Option.some.injEq] at h; subst h; simp [encPk]
    | succ j =>
      simp only [List.getElem?_cons_succ] at h
      have := ih h
      simpa [encPk, Nat.add_mul] using this
theorem flat_get1 : ∀ {l : List Pk} {j : Nat} {p : Pk}, l[j]? = some p → (l.flatMap encPk)[j * 2 + 1]? = some (.string p.2) := by
  intro l
  induction l with
  | nil => intro j p h; simp at h
  | cons x r ih =>
    intro j p h
    cases j with
    | zero => simp only [List.getElem?_cons_zero, Option.some.injEq] at h; subst h; simp [encPk]
    | succ j =>
      simp only [List.getElem?_cons_succ] at h
      have := ih h
      simpa [encPk, Nat.add_mul, Nat.add_right_comm] using this

theorem cells_ints {w : World} {b : Nat} {cs : Array Value} {e : TypeId} {fr : Nat × Nat} (xs : List Int) (h : w.heap[b]? = some (.cells cs e fr)) (hc : cs = (xs.map (.int .i64)).toArray) : ∀ (k : Nat) (u : Int), xs[k]? = some u → w.cell? ⟨b, 0 + k, none⟩ = some (.int .i64 u) := by
  intro k u hu
  rw [cell_of_row _ b (0 + k) _ _ _ h, hc]
  simp [hu]

set_option maxHeartbeats 400000 in
theorem at_any {a t vals to c} (x i : Int) (w : World) (h : NetRep w a t vals to c) :
    Calls Try.prog 29 #[.pointer (some ⟨a, 0, none⟩), .int .i64 x, .int .i64 i] w fun e w' => e = .returned (.tuple #[.agg #[.int .i64 (getM to x i).1.1, .string (getM to x i).1.2], .int .i64 (getM to x i).2]) ∧ Keeps [] w w' := by
  have hk0 : Keeps [] w ((w.alloc (.cells #[.int .i64 0, .string ⟨#[]⟩] 68 (0, 0))).alloc (.cells #[.int .i64 x] 3 (0, 0))) := ((Keeps.refl _ _).alloc _).alloc _
  have h60 : ((w.alloc (.cells #[.int .i64 0, .string ⟨#[]⟩] 68 (0, 0))).alloc (.cells #[.int .i64 x] 3 (0, 0))).heap[w.heap.size]? = some (.cells #[.int .i64 0, .string ⟨#[]⟩] 68 (0, 0)) :=
    (Below.heap_alloc _ _ _ (by simp)).trans (heap_alloc_new _ _)
  have Hn := Lib.hid (nodes_any a to.length to.length (w.heap.size + 1) 0 1 1 _ [x] _ (by omega) (hk0.cell h.cell_to (by simp)) rfl (cells_ints [x] (heap_top (by simp)) rfl))
  by_cases hn : noNode to.length x = true
  · have hg : getM to x i = (zPk, 180) := by simp [getM, hn]
    rw [allNodes_one, hn] at Hn
    rw [hg]
    clear hg hn h
    go_enter Try.func29, Try.ntmps29
    go_wp2_with fail
    refine Hn.out.mono ?_
    rintro e w1 ⟨rfl, hk⟩
    have h6 := hk.heap h60 (by simp)
    have h60' := cell_of_row w1 w.heap.size 0 _ _ _ h6
    have h61' := cell_of_row w1 w.heap.size 1 _ _ _ h6
    have h6z0 : w1.frozen? ⟨w.heap.size, 0, none⟩ = false := by simp [World.frozen?, h6]
    have h6z1 : w1.frozen? ⟨w.heap.size, 1, none⟩ = false := by simp [World.frozen?, h6]
    have hk1 := hk0.then hk
    clear h60 h6 hk hk0
    go_wp2_with fail
    exact bodyPost_ret (v := .tuple #[.agg #[.int .i64 0, .string ⟨#[]⟩], .int .i64 180]) (by simp [results, Try.results29, go_sem, h60', h61']) rfl ⟨rfl, (hk1.setCell (.inr (by simp)) _).setCell (.inr (by simp)) _⟩
  · have hn' : noNode to.length x = false := by simpa using hn
    rw [allNodes_one, hn'] at Hn
    simp only [noNode, Bool.or_eq_false_iff, decide_eq_false_iff_not, Int.not_lt, Int.not_le] at hn'
    obtain ⟨hx0, hx1⟩ := hn'
    obtain ⟨y, rfl⟩ := Int.eq_ofNat_of_zero_le hx0
    have hy : y < to.length := by omega
    have hyv : y < vals.length := by rw [h.hl]; exact hy
    obtain ⟨l, hl⟩ : ∃ l, to[y]? = some l := ⟨_, List.getElem?_eq_getElem hy⟩
    obtain ⟨v, hv⟩ : ∃ v, vals[y]? = some v := ⟨_, List.getElem?_eq_getElem hyv⟩
    obtain ⟨ho, hle⟩ := h.hr y v l hv hl
    have h1 := h.cell_to
    have h2 := h.cell_val hv
    by_cases hi : i < 0 ∨ (l.length : Int) ≤ i
    · have hg : getM to y i = (zPk, 5) := by simp [getM, hn, List.getD_eq_getElem?_getD, hl, hi]
      rw [hg]
      clear hg hn
      obtain ⟨ao, cap, rfl⟩ := own_form ho
      clear h ho hl
      by_cases hi0 : i < 0
      · clear hi
        go_enter Try.func29, Try.ntmps29
        go_wp2_with fail
        refine Hn.out.mono ?_
        rintro e w1 ⟨rfl, hk⟩
        have h6 := hk.heap h60 (by simp)
        have h60' := cell_of_row w1 w.heap.size 0 _ _ _ h6
        have h61' := cell_of_row w1 w.heap.size 1 _ _ _ h6
        have h6z0 : w1.frozen? ⟨w.heap.size, 0, none⟩ = false := by simp [World.frozen?, h6]
        have h6z1 : w1.frozen? ⟨w.heap.size, 1, none⟩ = false := by simp [World.frozen?, h6]
        have hk1 := hk0.then hk
        have h1' := hk1.cell h1 (by simp)
        have h2' := hk1.cell h2 (by simp)
        clear h60 h6 hk hk0 h1 h2
        go_wp2_with fail
        exact bodyPost_ret (v := .tuple #[.agg #[.int .i64 0, .string ⟨#[]⟩], .int .i64 5]) (by simp [results, Try.results29, go_sem, h60', h61']) rfl ⟨rfl, (hk1.setCell (.inr (by simp)) _).setCell (.inr (by simp)) _⟩
      · have hi1 := hi.resolve_left hi0
        clear hi
        go_enter Try.func29, Try.ntmps29
        go_wp2_with fail
        refine Hn.out.mono ?_
        rintro e w1 ⟨rfl, hk⟩
        have h6 := hk.heap h60 (by simp)
        have h60' := cell_of_row w1 w.heap.size 0 _ _ _ h6
        have h61' := cell_of_row w1 w.heap.size 1 _ _ _ h6
        have h6z0 : w1.frozen? ⟨w.heap.size, 0, none⟩ = false := by simp [World.frozen?, h6]
        have h6z1 : w1.frozen? ⟨w.heap.size, 1, none⟩ = false := by simp [World.frozen?, h6]
        have hk1 := hk0.then hk
        have h1' := hk1.cell h1 (by simp)
        have h2' := hk1.cell h2 (by simp)
        clear h60 h6 hk hk0 h1 h2
        go_wp2_with fail
        exact bodyPost_ret (v := .tuple #[.agg #[.int .i64 0, .string ⟨#[]⟩], .int .i64 5]) (by simp [results, Try.results29, go_sem, h60', h61']) rfl ⟨rfl, (hk1.setCell (.inr (by simp)) _).setCell (.inr (by simp)) _⟩
    · have hi0 : 0 ≤ i := by omega
      have hi1 : i < (l.length : Int) := by omega
      obtain ⟨j, rfl⟩ := Int.eq_ofNat_of_zero_le hi0
      have hj : j < l.length := by omega
      obtain ⟨p, hp⟩ : ∃ p, l[j]? = some p := ⟨_, List.getElem?_eq_getElem hj⟩
      have hg : getM to y j = (p, 0) := by
        simp [getM, hn, List.getD_eq_getElem?_getD, hl, hp]
        omega
      rw [hg]
      clear hg hn hi
      obtain ⟨g, cap, rfl, _, _⟩ := ho.form (by omega)
      have h30 : w.cell? ⟨g, j * 2, none⟩ = some (.int .i64 p.1) := by
        rw [ho.cellAt _ (by omega)]; exact flat_get0 hp
      have h31 : w.cell? ⟨g, j * 2 + 1, none⟩ = some (.string p.2) := by
        rw [ho.cellAt _ (by omega)]; exact flat_get1 hp
      clear h ho hl hp
      go_enter Try.func29, Try.ntmps29
      go_wp2_with fail
      refine Hn.out.mono ?_
      rintro e w1 ⟨rfl, hk⟩
      have h6 := hk.heap h60 (by simp)
      have h60' := cell_of_row w1 w.heap.size 0 _ _ _ h6
      have h61' := cell_of_row w1 w.heap.size 1 _ _ _ h6
      have h6z0 : w1.frozen? ⟨w.heap.size, 0, none⟩ = false := by simp [World.frozen?, h6]
      have h6z1 : w1.frozen? ⟨w.heap.size, 1, none⟩ = false := by simp [World.frozen?, h6]
      have hk1 := hk0.then hk
      have h1' := hk1.cell h1 (by simp)
      have h2' := hk1.cell h2 (by simp)
      have h30' := hk1.cell h30 (by simp)
      have h31' := hk1.cell h31 (by simp)
      clear h60 h6 hk hk0 h1 h2 h30 h31
      go_wp2_with fail
      exact bodyPost_ret (v := .tuple #[.agg #[.int .i64 p.1, .string p.2], .int .i64 0]) (by simp [results, Try.results29, go_sem, h60', h61']) rfl ⟨rfl, (hk1.setCell (.inr (by simp)) _).setCell (.inr (by simp)) _⟩

end Go.Proofs.Ytgkdlpbnhjfkdaa
