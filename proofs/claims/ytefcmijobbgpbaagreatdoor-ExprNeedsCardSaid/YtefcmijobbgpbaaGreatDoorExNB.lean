/- Slices of events that the call owns; two rows that grow. Conditions: those of each theorem. -/
import Derived.Test.YtefcmijobbgpbaaGreatDoorExNA
import Derived.Test.YtefcmijobbgpbaaGreatDoorExTB
namespace Go.Proofs.YtefcmijobbgpbaaGreatDoor
open Go.RowKit

theorem rtEv : RowTy Tryz.prog 38 37 7 80 := ⟨by kernel_rfl, by kernel_rfl, by decide⟩

def evCells (e : EvR) : List Value := [.string e.key, .string e.typ, .int .i64 e.n0, .int .i64 e.n1, .int .i64 e.n2, .int .i64 e.n3, .string e.text]
def evsRow (l : List EvR) : List Value := l.flatMap evCells

theorem evsRow_one (e : EvR) (l : List EvR) : evsRow (e :: l) = evCells e ++ evsRow l := rfl
theorem evsRow_app (l l' : List EvR) : evsRow (l ++ l') = evsRow l ++ evsRow l' := by simp [evsRow]
theorem evsRow_len (l : List EvR) : (evsRow l).length = l.length * 7 := by
  induction l with
  | nil => rfl
  | cons p l ih => rw [evsRow_one, List.length_append, ih]; simp [evCells]; omega
theorem evsRow_cell (l : List EvR) : ∀ u ∈ evsRow l, u.oneCell' = true := by
  intro u hu
  simp only [evsRow, List.mem_flatMap, evCells, List.mem_cons, List.not_mem_nil, or_false] at hu
  obtain ⟨x, _, h⟩ := hu
  rcases h with rfl | rfl | rfl | rfl | rfl | rfl | rfl <;> rfl

theorem evsRow_at : ∀ (l : List EvR) (j : Nat) (x : EvR), l[j]? = some x → (evsRow l)[j * 7]? = some (.string x.key) ∧ (evsRow l)[j * 7 + 1]? = some (.string x.typ) ∧ (evsRow l)[j * 7 + 2]? = some (.int .i64 x.n0) ∧ (evsRow l)[j * 7 + 3]? = some (.int .i64 x.n1) ∧
    (evsRow l)[j * 7 + 4]? = some (.int .i64 x.n2) ∧ (evsRow l)[j * 7 + 5]? = some (.int .i64 x.n3) ∧ (evsRow l)[j * 7 + 6]? = some (.string x.text)
  | [], j, x, h => by simp at h
  | y :: l, 0, x, h => by
    cases h
    exact ⟨rfl, rfl, rfl, rfl, rfl, rfl, rfl⟩
  | y :: l, j + 1, x, h => by
    have ih := evsRow_at l j x (by simpa using h)
    have e : ∀ i, (evsRow (y :: l))[(j + 1) * 7 + i]? = (evsRow l)[j * 7 + i]? := fun i => by
      rw [evsRow_one, List.getElem?_append_right (by simp [evCells]; omega)]
      congr 1
      simp [evCells]
      omega
    exact ⟨(e 0).trans ih.1, (e 1).trans ih.2.1, (e 2).trans ih.2.2.1, (e 3).trans ih.2.2.2.1, (e 4).trans ih.2.2.2.2.1, (e 5).trans ih.2.2.2.2.2.1, (e 6).trans ih.2.2.2.2.2.2⟩

theorem own_evs {w : World} {base cp n : Nat} {ao : Option Addr} {L : List EvR} (h : w.ownsRow base 37 7 (.slice ao n cp) n (evsRow L)) (hn : L.length = n) : ArgEv w (.slice ao n cp) L := by
  subst hn
  refine ⟨ao, cp, rfl, fun h0 => ?_, fun hne => ?_⟩
  · rcases h.2 with ⟨he, h0'⟩ | ⟨g, cap, cur, he, _⟩
    · obtain ⟨_, _, e3⟩ := Value.slice.inj he
      exact ⟨e3, List.eq_nil_of_length_eq_zero h0'⟩
    · rw [h0] at he
      obtain ⟨e1, _, _⟩ := Value.slice.inj he
      cases e1
  · rcases h.2 with ⟨he, h0'⟩ | ⟨g, cap, cur, he, hb, hg, hnc, hm, _, _⟩
    · exact absurd (List.eq_nil_of_length_eq_zero h0') hne
    · cases he
      refine ⟨g, 0, rfl, fun j x hx => ?_, hnc, by unfold maxLen at hm; exact hm⟩
      obtain ⟨h0, h1, h2, h3, h4, h5, h6⟩ := evsRow_at L j x hx
      have g0 := h.cells rfl _ _ h0
      have g1 := h.cells rfl _ _ h1
      have g2 := h.cells rfl _ _ h2
      have g3 := h.cells rfl _ _ h3
      have g4 := h.cells rfl _ _ h4
      have g5 := h.cells rfl _ _ h5
      have g6 := h.cells rfl _ _ h6
      rw [addr_add] at g0 g1 g2 g3 g4 g5 g6
      exact ⟨g0, g1, g2, g3, g4, g5, g6⟩

/-- A part of a slice of texts. -/
theorem ArgStr.slc {w : World} {v : Value} {l : List ByteArray} (h : ArgStr w v l) : SlC w v l.length 1 (l.map Value.string) := by
  obtain ⟨ao, cap, rfl, h1, h2⟩ := h
  refine ⟨ao, cap, rfl, by simp, fun h => ⟨by rw [(h1 h).2]; rfl, (h1 h).1⟩, fun b hb j u hu => ?_⟩
  by_cases hne : l = []
  · subst hne; cases hu
  · obtain ⟨bk, o, rfl, h3, h4⟩ := h2 hne
    cases hb
    rw [List.getElem?_map] at hu
    cases hl : l[j]? with
    | none => rw [hl] at hu; cases hu
    | some x =>
      rw [hl] at hu
      cases hu
      rw [addr_add]
      exact h3 j x hl

theorem SlC.front {w : World} {ao : Option Addr} {n cap size : Nat} {cells : List Value} (h : SlC w (.slice ao n cap) n size cells) {k : Nat} (hk : k ≤ n) : SlC w (.slice ao k cap) k size (cells.take (k * size)) := by
  obtain ⟨ao', cap', he, hl, hn, hc⟩ := h
  cases he
  refine ⟨ao, cap, rfl, ?_, fun h0 => ⟨by have := (hn h0).1; omega, (hn h0).2⟩, fun b hb j u hu => ?_⟩
  · rw [List.length_take, hl]
    exact Nat.min_eq_left (Nat.mul_le_mul_right _ hk)
  · rw [List.getElem?_take] at hu
    split at hu
    · exact hc b hb j u hu
    · cases hu

theorem SlC.back {w : World} {b o : Nat} {n cap size : Nat} {cells : List Value} (h : SlC w (.slice (some ⟨b, o, none⟩) n cap) n size cells) {k : Nat} (hk : k ≤ n) {o' : Nat} (ho : k < n → o' = o + k * size) (c : Nat) : SlC w (.slice (some ⟨b, o', none⟩) (n - k) c) (n - k) size (cells.drop (k * size)) := by
  obtain ⟨ao', cap', he, hl, hn, hc⟩ := h
  cases he
  refine ⟨_, c, rfl, ?_, fun h0 => by (cases h0), fun b' hb j u hu => ?_⟩
  · rw [List.length_drop, hl, Nat.sub_mul]
  · cases hb
    rw [List.getElem?_drop] at hu
    have h1 := hc ⟨b, o, none⟩ rfl _ u hu
    rw [addr_add] at h1 ⊢
    rcases Nat.lt_or_ge k n with hkn | hkn
    · rw [ho hkn, Nat.add_assoc]
      exact h1
    · rw [List.getElem?_eq_none (by rw [hl, show k = n by omega]; omega)] at hu
      cases hu

theorem truth_len {x : List PartR} (h : truthM x = true) : x.length ≤ 200 := by
  obtain ⟨t, hw, _⟩ := truthM_some h
  exact (wholeM_parts hw).2

theorem SlC.behind {w : World} {b o o2 : Nat} {n cap size : Nat} {cells : List Value} (h : SlC w (.slice (some ⟨b, o, none⟩) n cap) n size cells) {k : Nat} (hk : k ≤ n) (hc : n ≤ cap) (ho : o2 = o + k * size) : SlC w (.slice (if cap = k then some ⟨b, o, none⟩ else some ⟨b, o2, none⟩) (n - k) (cap - k)) (n - k) size (cells.drop (k * size)) := by
  split
  · rename_i he
    exact h.back hk (fun h => by omega) _
  · exact h.back hk (fun _ => ho) _

theorem strs_one (L : List ByteArray) : ∀ u ∈ L.map Value.string, u.oneCell' = true := by
  intro u hu
  obtain ⟨s, _, rfl⟩ := List.mem_map.1 hu
  rfl

theorem strs_front {w : World} {bk o k cap : Nat} {L : List ByteArray} (h : ArgStr w (.slice (some ⟨bk, o, none⟩) k cap) L) (hl : L.length = k) {i : Nat} (hi : i ≤ k) : SlC w (.slice (some ⟨bk, o, none⟩) i cap) i 1 ((L.take i).map Value.string) := by
  have h1 := h.slc
  rw [hl] at h1
  have h2 := h1.front hi
  rwa [Nat.mul_one, ← List.map_take] at h2

theorem strs_back {w : World} {bk o k cap : Nat} {L : List ByteArray} (h : ArgStr w (.slice (some ⟨bk, o, none⟩) k cap) L) (hl : L.length = k) {i : Nat} (hi : i < k) (hc : k ≤ cap) : SlC w (.slice (if cap = i + 1 then some ⟨bk, o, none⟩ else some ⟨bk, o + (i + 1), none⟩) (k - (i + 1)) (cap - (i + 1))) (k - (i + 1)) 1 ((L.drop (i + 1)).map Value.string) := by
  have h1 := h.slc
  rw [hl] at h1
  have h2 := h1.behind (k := i + 1) (o2 := o + (i + 1)) (by omega) hc (by omega)
  rwa [Nat.mul_one, ← List.map_drop] at h2

theorem evsRow_take : ∀ (l : List EvR) (i : Nat), (evsRow l).take (i * 7) = evsRow (l.take i)
  | [], i => by simp [evsRow]
  | e :: l, 0 => by simp [evsRow]
  | e :: l, i + 1 => by
    rw [List.take_succ_cons, evsRow_one, evsRow_one, ← evsRow_take l i, show (i + 1) * 7 = (evCells e).length + i * 7 by simp [evCells]; omega, List.take_length_add_append]

theorem evsRow_drop : ∀ (l : List EvR) (i : Nat), (evsRow l).drop (i * 7) = evsRow (l.drop i)
  | [], i => by simp [evsRow]
  | e :: l, 0 => by simp
  | e :: l, i + 1 => by
    rw [List.drop_succ_cons, evsRow_one, ← evsRow_drop l i, show (i + 1) * 7 = (evCells e).length + i * 7 by simp [evCells]; omega, List.drop_length_add_append]

theorem evs_front {w : World} {base b k cap : Nat} {l : List EvR} (h : w.ownsRow base 37 7 (.slice (some ⟨b, 0, none⟩) k cap) k (evsRow l)) {i : Nat} (hi : i ≤ k) : SlC w (.slice (some ⟨b, 0, none⟩) i cap) i 7 (evsRow (l.take i)) := by
  have h2 := (SlC.of_own h).front hi
  rwa [evsRow_take] at h2

theorem evs_back {w : World} {base b k cap : Nat} {l : List EvR} (h : w.ownsRow base 37 7 (.slice (some ⟨b, 0, none⟩) k cap) k (evsRow l)) {i : Nat} (hi : i < k) (hc : k ≤ cap) : SlC w (.slice (if cap = i + 1 then some ⟨b, 0, none⟩ else some ⟨b, (i + 1) * 7, none⟩) (k - (i + 1)) (cap - (i + 1))) (k - (i + 1)) 7 (evsRow (l.drop (i + 1))) := by
  have h2 := (SlC.of_own h).behind (k := i + 1) (o2 := (i + 1) * 7) (by omega) hc (by omega)
  rwa [evsRow_drop] at h2

/-! ### Two rows that grow, apart -/
structure Two (base : Nat) (w : World) (vN vE : Value) (nN nE : Nat) (xN : List ByteArray) (xE : List EvR) : Prop where
  n : w.ownsRow base 9 1 vN nN (xN.map Value.string)
  e : w.ownsRow base 37 7 vE nE (evsRow xE)
  apart : ∀ b, vN.ownBlock = some b → vE.ownBlock ≠ some b

theorem own_lt {w : World} {base e size : Nat} {v : Value} {n : Nat} {xs : List Value} (h : w.ownsRow base e size v n xs) {b : Nat} (hb : v.ownBlock = some b) : b < w.heap.size := by
  rcases h.2 with ⟨rfl, _⟩ | ⟨g, cap, cur, rfl, _, hg, _⟩
  · cases hb
  · simp only [Value.ownBlock, Option.some.injEq] at hb
    subst hb
    exact heap_lt hg

theorem Two.growN {base : Nat} {w w' : World} {vN vE v' : Value} {nN nE n' : Nat} {xN x' : List ByteArray} {xE : List EvR} (h : Two base w vN vE nN nE xN xE) (ho : w'.ownsRow base 9 1 v' n' (x'.map Value.string)) (hg : w.grownBy w' vN.ownBlock) (hat : v'.ownBlock = vN.ownBlock ∨ v'.ownBlock = some w.heap.size) : Two base w' v' vE n' nE x' xE := by
  refine ⟨ho, ?_, fun b hb => ?_⟩
  · cases hv : vN.ownBlock with
    | none => exact own_kept h.e ((Keeps.refl [] w).grown hg (by rw [hv]; simp)) (by simp)
    | some c => exact own_kept h.e ((Keeps.refl [c] w).grown hg (by rw [hv]; simp)) (fun b hb => by
        simp only [List.mem_singleton]
        exact fun e => h.apart c hv (by rw [hb, e]))
  · rcases hat with h1 | h1
    · exact h.apart b (by rw [← h1]; exact hb)
    · intro h2
      have := own_lt h.e h2
      rw [h1] at hb
      cases hb
      omega

theorem Two.growE {base : Nat} {w w' : World} {vN vE v' : Value} {nN nE n' : Nat} {xN : List ByteArray} {xE x' : List EvR} (h : Two base w vN vE nN nE xN xE) (ho : w'.ownsRow base 37 7 v' n' (evsRow x')) (hg : w.grownBy w' vE.ownBlock) (hat : v'.ownBlock = vE.ownBlock ∨ v'.ownBlock = some w.heap.size) : Two base w' vN v' nN n' xN x' := by
  refine ⟨?_, ho, fun b hb => ?_⟩
  · cases hv : vE.ownBlock with
    | none => exact own_kept h.n ((Keeps.refl [] w).grown hg (by rw [hv]; simp)) (by simp)
    | some c => exact own_kept h.n ((Keeps.refl [c] w).grown hg (by rw [hv]; simp)) (fun b hb => by
        simp only [List.mem_singleton]
        exact fun e => h.apart b hb (by rw [hv, e]))
  · rcases hat with h1 | h1
    · rw [h1]
      exact h.apart b hb
    · intro h2
      have := own_lt h.n hb
      rw [h1] at h2
      cases h2
      omega

theorem Two.newE {base : Nat} {w : World} {vN : Value} {nN : Nat} {xN : List ByteArray} (h : w.ownsRow base 9 1 vN nN (xN.map Value.string)) (xs : List EvR) (m : Nat) (hm : xs.length = m) (hm2 : m ≤ maxLen) (hb : base ≤ w.heap.size) :
    Two base (w.alloc (.cells (evsRow xs).toArray 37 (0, 0))) vN (.slice (some ⟨w.heap.size, 0, none⟩) m m) nN m xN xs := by
  refine ⟨own_kept h ((Keeps.refl [] w).alloc _) (by simp), ?_, fun b hb2 => ?_⟩
  · have := own_mono (own_new w (evsRow xs).toArray 37 7 m (by simp [evsRow_len, hm]) hm2) hb
    simpa using this
  · have := own_lt h hb2
    simp only [Value.ownBlock, ne_eq, Option.some.injEq]
    omega

theorem Two.newN {base : Nat} {w : World} {vE : Value} {nE : Nat} {xE : List EvR} (h : w.ownsRow base 37 7 vE nE (evsRow xE)) (xs : List ByteArray) (m : Nat) (hm : xs.length = m) (hm2 : m ≤ maxLen) (hb : base ≤ w.heap.size) :
    Two base (w.alloc (.cells (xs.map Value.string).toArray 9 (0, 0))) (.slice (some ⟨w.heap.size, 0, none⟩) m m) vE m nE xs xE := by
  refine ⟨?_, own_kept h ((Keeps.refl [] w).alloc _) (by simp), fun b hb2 => ?_⟩
  · have := own_mono (own_new w (xs.map Value.string).toArray 9 1 m (by simp [hm]) hm2) hb
    simpa using this
  · simp only [Value.ownBlock, Option.some.injEq] at hb2
    subst hb2
    intro h2
    have := own_lt h h2
    omega

end Go.Proofs.YtefcmijobbgpbaaGreatDoor
