/- What is kept by the steps of a net: plain laws. Conditions: those of each theorem. -/
import Derived.Test.YtgkdlpbnhjfkdaaTruA
import Derived.Test.YtgkdlpbnhjfkdaaNetP
namespace Go.Proofs.Ytgkdlpbnhjfkdaa
open Go.RowKit

def hit (q : Pk3) (p : Pk) : Bool := decide (p = (q.1, q.2.2))
def qn (to : List (List Pk)) (q : Pk3) : Nat := (to.getD q.2.1.toNat []).countP (hit q)
def tot (to : List (List Pk)) : Nat := (to.map List.length).sum

theorem qn_set (to : List (List Pk)) (y : Nat) (l : List Pk) (hy : y < to.length) (q : Pk3) : qn (to.set y l) q = if q.2.1.toNat = y then l.countP (hit q) else qn to q := by
  unfold qn
  rw [List.getD_eq_getElem?_getD, List.getElem?_set]
  by_cases h : y = q.2.1.toNat
  · subst h
    simp [hy]
  · rw [if_neg h, if_neg (Ne.symm h), List.getD_eq_getElem?_getD]

theorem tot_set : ∀ (to : List (List Pk)) (y : Nat) (l : List Pk), y < to.length → tot (to.set y l) + (to.getD y []).length = tot to + l.length
  | [], _, _, h => by simp at h
  | m :: r, 0, l, _ => by simp [tot]; omega
  | m :: r, y + 1, l, h => by
    have := tot_set r y l (by simpa using h)
    simp only [tot, List.set_cons_succ, List.map_cons, List.sum_cons, List.getD_cons_succ] at this ⊢
    omega

theorem erase_count (f : Pk → Bool) : ∀ (l : List Pk) (j : Nat) (p : Pk), l[j]? = some p → (l.eraseIdx j).countP f + (if f p = true then 1 else 0) = l.countP f
  | [], _, _, h => by simp at h
  | a :: r, 0, p, h => by simp at h; subst h; simp [List.countP_cons]
  | a :: r, j + 1, p, h => by
    have := erase_count f r j p (by simpa using h)
    simp only [List.eraseIdx_cons_succ, List.countP_cons]
    omega

theorem erase_len {l : List Pk} {j : Nat} {p : Pk} (h : l[j]? = some p) : (l.eraseIdx j).length + 1 = l.length := by
  have hj := (List.getElem?_eq_some_iff.1 h).1
  rw [List.length_eraseIdx_of_lt hj]; omega

structure TInv (K : Nat) (to : List (List Pk)) (c : List Int) (S T : Pk3 → Int) (cp : Int) : Prop where
  len : to.length = 3
  hc : c.length = 4
  main : ∀ q : Pk3, 0 ≤ q.2.1 → (qn to q : Int) + T q ≤ S q + cp
  pos : ∀ q : Pk3, 0 ≤ q.2.1 → 0 < qn to q → 0 < S q
  s0 : ∀ q, 0 ≤ S q ∧ S q ≤ K
  t0 : ∀ q, 0 ≤ T q ∧ T q ≤ K
  cpb : 0 ≤ cp ∧ cp ≤ K
  c0b : 0 ≤ c.getD 0 0 ∧ c.getD 0 0 ≤ K
  c1b : 0 ≤ c.getD 1 0
  c3b : 0 ≤ c.getD 3 0
  c2 : c.getD 2 0 = cp
  bal : c.getD 0 0 + c.getD 2 0 = (tot to : Int) + c.getD 1 0 + c.getD 3 0
  okp : ∀ l ∈ to, ∀ p ∈ l, (0 ≤ p.1 ∧ p.1 ≤ 2) ∧ p.2.size ≤ maxLen

theorem TInv.more {K to c S T cp} (h : TInv K to c S T cp) : TInv (K + 1) to c S T cp :=
  { h with s0 := fun q => by have := h.s0 q; omega, t0 := fun q => by have := h.t0 q; omega, cpb := by have := h.cpb; omega, c0b := by have := h.c0b; omega }

theorem TInv.start : TInv 0 [[], [], []] [0, 0, 0, 0] (fun _ => 0) (fun _ => 0) 0 where
  len := rfl
  hc := rfl
  main := fun q hq => by
    have : qn [[], [], []] q = 0 := by
      unfold qn
      have : ([[], [], []] : List (List Pk)).getD q.2.1.toNat [] = [] := by
        rw [List.getD_eq_getElem?_getD]
        rcases q.2.1.toNat with _ | _ | _ | n <;> simp
      rw [this]; rfl
    rw [this]; simp
  pos := fun q hq h => by
    have : qn [[], [], []] q = 0 := by
      unfold qn
      have : ([[], [], []] : List (List Pk)).getD q.2.1.toNat [] = [] := by
        rw [List.getD_eq_getElem?_getD]
        rcases q.2.1.toNat with _ | _ | _ | n <;> simp
      rw [this]; rfl
    omega
  s0 := fun q => by simp
  t0 := fun q => by simp
  cpb := by simp
  c0b := by simp
  c1b := by simp
  c3b := by simp
  c2 := rfl
  bal := by simp [tot]
  okp := by simp

theorem getD_set_self' (c : List Int) (k : Nat) (v : Int) (h : k < c.length) : (c.set k v).getD k 0 = v := by simp [List.getD_eq_getElem?_getD, h]
theorem getD_set_other (c : List Int) (k j : Nat) (v : Int) (h : k ≠ j) : (c.set k v).getD j 0 = c.getD j 0 := by simp [List.getD_eq_getElem?_getD, List.getElem?_set, h]

theorem okp_set {to : List (List Pk)} {y : Nat} {l : List Pk} (h : ∀ l ∈ to, ∀ p ∈ l, (0 ≤ p.1 ∧ p.1 ≤ 2) ∧ p.2.size ≤ maxLen) (hl : ∀ p ∈ l, (0 ≤ p.1 ∧ p.1 ≤ 2) ∧ p.2.size ≤ maxLen) :
    ∀ m ∈ to.set y l, ∀ p ∈ m, (0 ≤ p.1 ∧ p.1 ≤ 2) ∧ p.2.size ≤ maxLen := by
  intro m hm p hp
  rcases List.mem_or_eq_of_mem_set hm with h1 | rfl
  · exact h m h1 p hp
  · exact hl p hp

theorem getD_mem {to : List (List Pk)} {y : Nat} {p : Pk} (h : p ∈ to.getD y []) : ∃ l ∈ to, p ∈ l := by
  rw [List.getD_eq_getElem?_getD] at h
  cases h3 : to[y]? with
  | none => rw [h3] at h; cases h
  | some m => rw [h3] at h; exact ⟨m, List.mem_of_getElem? h3, h⟩

theorem hit_self (f x : Int) (b : ByteArray) : hit (f, x, b) (f, b) = true := by simp [hit]
theorem hit_eq {q : Pk3} {p : Pk} (h : hit q p = true) : q.1 = p.1 ∧ q.2.2 = p.2 := by
  simp only [hit, decide_eq_true_eq] at h
  subst h
  exact ⟨rfl, rfl⟩

/-- A packet more in y's queue; it is counted in place k. -/
theorem TInv.put {K to c S T cp} (h : TInv K to c S T cp) (hK : K ≤ 200) {y : Nat} (hy : y < 3) {f : Int} (hf : 0 ≤ f ∧ f ≤ 2) {b : ByteArray} (hb : b.size ≤ maxLen) :
    TInv (K + 1) (to.set y (to.getD y [] ++ [(f, b)])) (c.set 0 (wrap64 (c.getD 0 0 + 1))) (upd S (f, (y : Int), b) (S (f, (y : Int), b) + 1)) T cp := by
  have hyl : y < to.length := by rw [h.len]; exact hy
  have hw : wrap64 (c.getD 0 0 + 1) = c.getD 0 0 + 1 := by have := h.c0b; unfold wrap64; omega
  have hl0 : 0 < c.length := by rw [h.hc]; omega
  have hS : ∀ q, S q ≤ upd S (f, (y : Int), b) (S (f, (y : Int), b) + 1) q := by
    intro q
    unfold upd
    split
    · rename_i e; subst e; omega
    · exact Int.le_refl _
  have hq : ∀ q : Pk3, 0 ≤ q.2.1 → (qn (to.set y (to.getD y [] ++ [(f, b)])) q : Int) - qn to q ≤ upd S (f, (y : Int), b) (S (f, (y : Int), b) + 1) q - S q := by
    intro q hq0
    rw [qn_set _ _ _ hyl]
    have h1 := hS q
    split
    · rename_i e
      rw [List.countP_append]
      have e2 : qn to q = (to.getD y []).countP (hit q) := by unfold qn; rw [e]
      rw [e2]
      by_cases hh : hit q (f, b) = true
      · have h2 := hit_eq hh
        have : q = (f, (y : Int), b) := by
          obtain ⟨q1, q2, q3⟩ := q
          simp only at h2 e hq0
          obtain ⟨rfl, rfl⟩ := h2
          have : q2 = (y : Int) := by omega
          rw [this]
        subst this
        simp only [upd, if_true, List.countP_singleton, hh]
        omega
      · simp only [List.countP_singleton, hh]
        simp only [Bool.not_eq_true] at hh
        simp
        exact h1
    · omega
  have ht := tot_set to y (to.getD y [] ++ [(f, b)]) hyl
  rw [List.length_append, List.length_singleton] at ht
  refine ⟨by rw [List.length_set]; exact h.len, by rw [List.length_set]; exact h.hc, fun q h0 => ?_, fun q h0 hp => ?_, fun q => ?_, fun q => ?_, ?_, ?_, ?_, ?_, ?_, ?_, okp_set h.okp fun p hp => ?_⟩
  · have := h.main q h0; have := hq q h0; omega
  · have h1 := hq q h0
    have h2 := h.s0 q
    have h3 := hS q
    by_cases h4 : 0 < qn to q
    · have := h.pos q h0 h4; omega
    · omega
  · have h1 := h.s0 q
    unfold upd
    split
    · rename_i e; subst e; omega
    · omega
  · have := h.t0 q; omega
  · have := h.cpb; omega
  · rw [getD_set_self' _ _ _ hl0, hw]; have := h.c0b; omega
  · rw [getD_set_other _ _ _ _ (by omega)]; exact h.c1b
  · rw [getD_set_other _ _ _ _ (by omega)]; exact h.c3b
  · rw [getD_set_other _ _ _ _ (by omega)]; exact h.c2
  · rw [getD_set_self' _ _ _ hl0, hw, getD_set_other _ _ _ _ (by omega), getD_set_other _ _ _ _ (by omega), getD_set_other _ _ _ _ (by omega)]; have := h.bal; omega
  · rcases List.mem_append.1 hp with h1 | h1
    · obtain ⟨l, h2, h3⟩ := getD_mem h1
      exact h.okp l h2 p h3
    · simp only [List.mem_singleton] at h1
      subst h1
      exact ⟨hf, hb⟩

/-- A packet less; it is counted in place k. -/
theorem TInv.drop {K to c S T cp} (h : TInv K to c S T cp) (hK : K ≤ 200) {y j : Nat} (hy : y < 3) {p : Pk} (hp : (to.getD y [])[j]? = some p) :
    TInv (K + 1) (to.set y ((to.getD y []).eraseIdx j)) (c.set 1 (wrap64 (c.getD 1 0 + 1))) S T cp ∧
    TInv (K + 1) (to.set y ((to.getD y []).eraseIdx j)) (c.set 3 (wrap64 (c.getD 3 0 + 1))) S (upd T (p.1, (y : Int), p.2) (T (p.1, (y : Int), p.2) + 1)) cp ∧
    0 < S (p.1, (y : Int), p.2) ∧ T (p.1, (y : Int), p.2) + 1 ≤ S (p.1, (y : Int), p.2) + cp := by
  have hyl : y < to.length := by rw [h.len]; exact hy
  have ht := tot_set to y ((to.getD y []).eraseIdx j) hyl
  have hel := erase_len hp
  have hb := h.bal
  have hw1 : wrap64 (c.getD 1 0 + 1) = c.getD 1 0 + 1 := by
    have := h.c0b; have := h.c1b; have := h.c3b; have := h.c2; have := h.cpb; unfold wrap64; omega
  have hw3 : wrap64 (c.getD 3 0 + 1) = c.getD 3 0 + 1 := by
    have := h.c0b; have := h.c1b; have := h.c3b; have := h.c2; have := h.cpb; unfold wrap64; omega
  have hl1 : 1 < c.length := by rw [h.hc]; omega
  have hl3 : 3 < c.length := by rw [h.hc]; omega
  have hq : ∀ q : Pk3, qn (to.set y ((to.getD y []).eraseIdx j)) q + (if q.2.1.toNat = y ∧ hit q p = true then 1 else 0) = qn to q := by
    intro q
    rw [qn_set _ _ _ hyl]
    split
    · rename_i e
      have e2 : qn to q = (to.getD y []).countP (hit q) := by unfold qn; rw [e]
      rw [e2, ← erase_count (hit q) _ j p hp]
      simp [e]
    · rename_i e
      simp [e]
  have hself := hq (p.1, (y : Int), p.2)
  have hs2 : ((p.1, (y : Int), p.2) : Pk3).2.1.toNat = y ∧ hit (p.1, (y : Int), p.2) p = true := ⟨by simp, hit_self _ _ _⟩
  rw [if_pos hs2] at hself
  have hpos := h.pos (p.1, (y : Int), p.2) (by simp) (by omega)
  have hmn := h.main (p.1, (y : Int), p.2) (by simp)
  have hok : ∀ m ∈ to.set y ((to.getD y []).eraseIdx j), ∀ p ∈ m, (0 ≤ p.1 ∧ p.1 ≤ 2) ∧ p.2.size ≤ maxLen := okp_set h.okp fun r hr => by
    obtain ⟨l, h2, h3⟩ := getD_mem (List.mem_of_mem_eraseIdx hr)
    exact h.okp l h2 r h3
  refine ⟨⟨by rw [List.length_set]; exact h.len, by rw [List.length_set]; exact h.hc, fun q h0 => ?_, fun q h0 hp => ?_, fun q => ?_, fun q => ?_, ?_, ?_, ?_, ?_, ?_, ?_, hok⟩,
    ⟨by rw [List.length_set]; exact h.len, by rw [List.length_set]; exact h.hc, fun q h0 => ?_, fun q h0 hp => ?_, fun q => ?_, fun q => ?_, ?_, ?_, ?_, ?_, ?_, ?_, hok⟩, hpos, by omega⟩
  · have := h.main q h0; have := hq q; omega
  · have := hq q; exact h.pos q h0 (by omega)
  · have := h.s0 q; omega
  · have := h.t0 q; omega
  · have := h.cpb; omega
  · rw [getD_set_other _ _ _ _ (by omega)]; have := h.c0b; omega
  · rw [getD_set_self' _ _ _ hl1, hw1]; have := h.c1b; omega
  · rw [getD_set_other _ _ _ _ (by omega)]; exact h.c3b
  · rw [getD_set_other _ _ _ _ (by omega)]; exact h.c2
  · rw [getD_set_self' _ _ _ hl1, hw1, getD_set_other _ _ _ _ (by omega), getD_set_other _ _ _ _ (by omega), getD_set_other _ _ _ _ (by omega)]; omega
  · have h1 := h.main q h0
    have h2 := hq q
    unfold upd
    split
    · rename_i e
      subst e
      rw [if_pos hs2] at h2
      omega
    · omega
  · have := hq q; exact h.pos q h0 (by omega)
  · have := h.s0 q; omega
  · have h1 := h.t0 q
    unfold upd
    split
    · rename_i e; subst e; omega
    · omega
  · have := h.cpb; omega
  · rw [getD_set_other _ _ _ _ (by omega)]; have := h.c0b; omega
  · rw [getD_set_other _ _ _ _ (by omega)]; exact h.c1b
  · rw [getD_set_self' _ _ _ hl3, hw3]; have := h.c3b; omega
  · rw [getD_set_other _ _ _ _ (by omega)]; exact h.c2
  · rw [getD_set_self' _ _ _ hl3, hw3, getD_set_other _ _ _ _ (by omega), getD_set_other _ _ _ _ (by omega), getD_set_other _ _ _ _ (by omega)]; omega

/-- A copy of a packet that is on its way. -/
theorem TInv.copy {K to c S T cp} (h : TInv K to c S T cp) (hK : K ≤ 200) {y j : Nat} (hy : y < 3) {p : Pk} (hp : (to.getD y [])[j]? = some p) :
    TInv (K + 1) (to.set y (to.getD y [] ++ [p])) (c.set 2 (wrap64 (c.getD 2 0 + 1))) S T (cp + 1) := by
  have hyl : y < to.length := by rw [h.len]; exact hy
  have hw : wrap64 (c.getD 2 0 + 1) = c.getD 2 0 + 1 := by have := h.c2; have := h.cpb; unfold wrap64; omega
  have hl : 2 < c.length := by rw [h.hc]; omega
  have ht := tot_set to y (to.getD y [] ++ [p]) hyl
  rw [List.length_append, List.length_singleton] at ht
  have hq : ∀ q : Pk3, qn (to.set y (to.getD y [] ++ [p])) q ≤ qn to q + 1 ∧ (0 < qn (to.set y (to.getD y [] ++ [p])) q → 0 < qn to q) := by
    intro q
    rw [qn_set _ _ _ hyl]
    split
    · rename_i e
      have e2 : qn to q = (to.getD y []).countP (hit q) := by unfold qn; rw [e]
      rw [List.countP_append, List.countP_singleton, e2]
      refine ⟨by split <;> omega, fun h1 => ?_⟩
      by_cases hh : hit q p = true
      · exact List.countP_pos_iff.2 ⟨p, List.mem_of_getElem? hp, hh⟩
      · rw [if_neg hh] at h1; omega
    · exact ⟨by omega, id⟩
  refine ⟨by rw [List.length_set]; exact h.len, by rw [List.length_set]; exact h.hc, fun q h0 => ?_, fun q h0 hp => ?_, fun q => ?_, fun q => ?_, ?_, ?_, ?_, ?_, ?_, ?_, okp_set h.okp fun r hr => ?_⟩
  · have := h.main q h0; have := (hq q).1; omega
  · exact h.pos q h0 ((hq q).2 hp)
  · have := h.s0 q; omega
  · have := h.t0 q; omega
  · have := h.cpb; omega
  · rw [getD_set_other _ _ _ _ (by omega)]; have := h.c0b; omega
  · rw [getD_set_other _ _ _ _ (by omega)]; exact h.c1b
  · rw [getD_set_other _ _ _ _ (by omega)]; exact h.c3b
  · rw [getD_set_self' _ _ _ hl, hw]; have := h.c2; omega
  · rw [getD_set_self' _ _ _ hl, hw, getD_set_other _ _ _ _ (by omega), getD_set_other _ _ _ _ (by omega), getD_set_other _ _ _ _ (by omega)]; have := h.bal; omega
  · rcases List.mem_append.1 hr with h1 | h1
    · obtain ⟨l, h2, h3⟩ := getD_mem h1
      exact h.okp l h2 r h3
    · simp only [List.mem_singleton] at h1
      subst h1
      obtain ⟨l, h2, h3⟩ := getD_mem (List.mem_of_getElem? hp)
      exact h.okp l h2 r h3

theorem TInv.clear {K to c S T cp} (h : TInv K to c S T cp) (hK : K ≤ 200) (x : Int) : TInv (K + 1) (clearM to c x).1 (clearM to c x).2.1 S T cp := by
  simp only [clearM]
  split
  · exact h.more
  · have hlen := h.len
    obtain ⟨l0, l1, l2, rfl⟩ : ∃ l0 l1 l2, to = [l0, l1, l2] := by
      match to, hlen with
      | [l0, l1, l2], _ => exact ⟨l0, l1, l2, rfl⟩
    have hcl : clrTo x [l0, l1, l2] [l0, l1, l2].length = [clr x 0 l0, clr x 1 l1, clr x 2 l2] := by simp [clrTo, List.mapIdx_cons]
    have s0 : ∀ i l, (clr x i l).Sublist l := fun i l => List.filter_sublist
    have n0 := (s0 0 l0).length_le
    have n1 := (s0 1 l1).length_le
    have n2 := (s0 2 l2).length_le
    have hlo : lostTo x [l0, l1, l2] [l0, l1, l2].length = (l0.length - (clr x 0 l0).length) + (l1.length - (clr x 1 l1).length) + (l2.length - (clr x 2 l2).length) := by simp [lostTo]
    rw [hcl, hlo]
    have hb := h.bal
    have t1 : tot [l0, l1, l2] = l0.length + l1.length + l2.length := by simp [tot]; omega
    have t2 : tot [clr x 0 l0, clr x 1 l1, clr x 2 l2] = (clr x 0 l0).length + (clr x 1 l1).length + (clr x 2 l2).length := by simp [tot]; omega
    generalize hm : (l0.length - (clr x 0 l0).length) + (l1.length - (clr x 1 l1).length) + (l2.length - (clr x 2 l2).length) = m
    show TInv (K + 1) [clr x 0 l0, clr x 1 l1, clr x 2 l2] (c.set 1 (wrap64 (c.getD 1 0 + (m : Int)))) S T cp
    have hw : wrap64 (c.getD 1 0 + (m : Int)) = c.getD 1 0 + m := by
      have := h.c0b; have := h.c1b; have := h.c3b; have := h.c2; have := h.cpb; unfold wrap64; omega
    have hl : 1 < c.length := by rw [h.hc]; omega
    have hq : ∀ q : Pk3, qn [clr x 0 l0, clr x 1 l1, clr x 2 l2] q ≤ qn [l0, l1, l2] q := by
      intro q
      unfold qn
      rcases q.2.1.toNat with _ | _ | _ | n
      · exact (s0 0 l0).countP_le
      · exact (s0 1 l1).countP_le
      · exact (s0 2 l2).countP_le
      · simp
    refine ⟨rfl, by rw [List.length_set]; exact h.hc, fun q h0 => ?_, fun q h0 hp => ?_, fun q => ?_, fun q => ?_, ?_, ?_, ?_, ?_, ?_, ?_, ?_⟩
    · have := h.main q h0; have := hq q; omega
    · have := hq q; exact h.pos q h0 (by omega)
    · have := h.s0 q; omega
    · have := h.t0 q; omega
    · have := h.cpb; omega
    · rw [getD_set_other _ _ _ _ (by omega)]; have := h.c0b; omega
    · rw [getD_set_self' _ _ _ hl, hw]; have := h.c1b; omega
    · rw [getD_set_other _ _ _ _ (by omega)]; exact h.c3b
    · rw [getD_set_other _ _ _ _ (by omega)]; exact h.c2
    · rw [getD_set_self' _ _ _ hl, hw, getD_set_other _ _ _ _ (by omega), getD_set_other _ _ _ _ (by omega), getD_set_other _ _ _ _ (by omega)]; omega
    · intro l hl' p hp
      simp only [List.mem_cons, List.not_mem_nil, or_false] at hl'
      rcases hl' with rfl | rfl | rfl
      · exact h.okp l0 (by simp) p ((s0 0 l0).subset hp)
      · exact h.okp l1 (by simp) p ((s0 1 l1).subset hp)
      · exact h.okp l2 (by simp) p ((s0 2 l2).subset hp)

end Go.Proofs.Ytgkdlpbnhjfkdaa
