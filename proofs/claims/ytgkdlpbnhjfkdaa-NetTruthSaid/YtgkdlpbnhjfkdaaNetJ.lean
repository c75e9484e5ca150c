/- A net of two nodes, and the remainder that among tells. Conditions: those of each theorem. -/
import Derived.Test.YtgkdlpbnhjfkdaaNetI
namespace Go.Proofs.Ytgkdlpbnhjfkdaa
open Go.RowKit

/-- A net of two nodes of the call's own, with Q on the way to node 1. -/
def NetIn (W w : World) (a t : Nat) (Q : List Pk) : Prop := ∃ vals c, NetRep w a t vals [[], Q] c ∧ (∀ x ∈ blocksOf a t vals, W.heap.size ≤ x) ∧ Keeps [] W w

theorem NetIn.post {W w w' : World} {a t : Nat} {vals : List Value} {Q : List Pk} {c' : List Int} (hb : ∀ x ∈ blocksOf a t vals, W.heap.size ≤ x) (hk : Keeps [] W w) (h : NetPost w w' a t vals [[], Q] c') : NetIn W w' a t Q := by
  obtain ⟨v, h1, h2⟩ := h
  refine ⟨v, c', h1, fun x hx => ?_, hk.trans h2.keeps fun x hx hlt => by have := hb x hx; omega⟩
  rcases h2.sub x hx with h3 | h3
  · exact hb x h3
  · exact Nat.le_trans hk.size h3

theorem send_in {W w : World} {a t : Nat} {Q : List Pk} (b : ByteArray) (h : NetIn W w a t Q) (hb : b.size ≤ 65536) (hQ : Q.length < 4096) :
    Calls Try.prog 9 #[.pointer (some ⟨a, 0, none⟩), .int .i64 0, .int .i64 1, .string b] w fun e w' => e = .returned (.int .i64 0) ∧ NetIn W w' a t (Q ++ [(0, b)]) := by
  obtain ⟨vals, c, h1, h2, h3⟩ := h
  have : sendM [[], Q] c 0 1 b = ([[], Q ++ [(0, b)]], c.set 0 (wrap64 (c.getD 0 0 + 1)), 0) := by
    have e1 : noNode [[], Q].length 0 = false := rfl
    have e2 : noNode [[], Q].length 1 = false := rfl
    simp only [sendM, e1, e2]
    rw [if_neg (by simp)]
    simp only [putM]
    rw [if_neg (by simp; omega)]
    rfl
  refine (this ▸ send_any 0 1 b w h1).mono fun e w' ⟨he, hp⟩ => ⟨he, NetIn.post h2 h3 hp⟩

theorem take_in {W w : World} {a t : Nat} {Q : List Pk} {p : Pk} (h : NetIn W w a t (p :: Q)) :
    Calls Try.prog 11 #[.pointer (some ⟨a, 0, none⟩), .int .i64 1, .int .i64 0] w fun e w' => e = .returned (.tuple #[.int .i64 p.1, .string p.2, .int .i64 0]) ∧ NetIn W w' a t Q := by
  obtain ⟨vals, c, h1, h2, h3⟩ := h
  have e1 : getM [[], p :: Q] 1 0 = (p, 0) := by
    have e1 : noNode [[], p :: Q].length 1 = false := rfl
    simp only [getM, e1]
    rw [if_neg (by simp)]
    rw [if_neg (by simp)]
    rfl
  have e2 : pullM [[], p :: Q] c 1 0 3 = ([[], Q], c.set 3 (wrap64 (c.getD 3 0 + 1))) := by
    simp only [pullM, e1]
    rfl
  have := take_any 1 0 w h1
  rw [e1, e2] at this
  exact this.mono fun e w' ⟨he, hp⟩ => ⟨he, NetIn.post h2 h3 hp⟩

theorem take_none {W w : World} {a t : Nat} (h : NetIn W w a t []) :
    Calls Try.prog 11 #[.pointer (some ⟨a, 0, none⟩), .int .i64 1, .int .i64 0] w fun e w' => e = .returned (.tuple #[.int .i64 0, .string ⟨#[]⟩, .int .i64 5]) ∧ NetIn W w' a t [] := by
  obtain ⟨vals, c, h1, h2, h3⟩ := h
  have e1 : getM [[], []] 1 0 = (zPk, 5) := by
    have e1 : noNode [[], ([] : List Pk)].length 1 = false := rfl
    simp only [getM, e1]
    rfl
  have e2 : pullM [[], []] c 1 0 3 = ([[], []], c) := by
    simp only [pullM, e1]
    rfl
  have := take_any 1 0 w h1
  rw [e1, e2] at this
  exact this.mono fun e w' ⟨he, hp⟩ => ⟨he, NetIn.post h2 h3 hp⟩

theorem new_in (w : World) : Calls Try.prog 7 #[.int .i64 2] w fun e w' => e = .returned (.tuple #[.pointer (some ⟨w.heap.size + 1, 0, none⟩), .int .i64 0]) ∧ NetIn w w' (w.heap.size + 1) w.heap.size [] :=
  (new_yes 2 w (by omega) (by omega)).mono fun e w' ⟨he, h1, h2⟩ => ⟨he, _, _, h1, fun x hx => by
    have : (List.replicate 2 (Value.slice none 0 0)).filterMap Value.ownBlock = [] := rfl
    simp only [blocksOf, this, List.mem_cons, List.not_mem_nil, or_false] at hx
    omega, h2⟩

theorem NetIn.keep {W w w' : World} {a t : Nat} {Q : List Pk} (h : NetIn W w a t Q) (k : Keeps [] w w') : NetIn W w' a t Q := by
  obtain ⟨vals, c, h1, h2, h3⟩ := h
  exact ⟨vals, c, h1.keep k (by simp), h2, h3.then k⟩
theorem NetIn.old {W w : World} {a t : Nat} {Q : List Pk} (h : NetIn W w a t Q) : Keeps [] W w := by
  obtain ⟨vals, c, h1, h2, h3⟩ := h
  exact h3

theorem among_num (x n : Int) (hn : 0 < n) : (x.tmod n + n) % n = x % n := by
  rw [Int.add_emod_right, Int.tmod_eq_emod]
  split
  · simp
  · have : ((n.natAbs : Int)) = n := by omega
    rw [this]; simp

set_option maxHeartbeats 400000 in
theorem among_any (x n : Int) (w : World) (hn : 0 < n) (hn2 : n < 1000) (hx : -9223372036854775808 ≤ x) (hx2 : x ≤ 9223372036854775807) :
    Calls Try.prog 10 #[.int .i64 x, .int .i64 n] w fun e w' => e = .returned (.int .i64 (x % n)) ∧ w = w' := by
  have h1 := Int.lt_tmod_of_pos x hn
  have h2 := Int.tmod_lt_of_pos x hn
  have hne : ¬ n = 0 := by omega
  go_enter Try.func10, Try.ntmps10
  go_wp2_with fail
  go_ret
  exact ⟨ret_int (among_num x n hn), rfl⟩

end Go.Proofs.Ytgkdlpbnhjfkdaa
