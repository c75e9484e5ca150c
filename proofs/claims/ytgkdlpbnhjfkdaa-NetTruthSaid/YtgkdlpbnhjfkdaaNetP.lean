/- The walk of NetFull. Conditions: none but the text's length as it can be read. -/
import Derived.Test.YtgkdlpbnhjfkdaaNetO
import Derived.Test.YtgkdlpbnhjfkdaaNetI
namespace Go.Proofs.Ytgkdlpbnhjfkdaa
open Go.RowKit

/-- A net of the call's own. -/
def NetAt (W w : World) (a t : Nat) (to : List (List Pk)) (c : List Int) : Prop := ∃ vals, NetRep w a t vals to c ∧ (∀ x ∈ blocksOf a t vals, W.heap.size ≤ x) ∧ Keeps [] W w

theorem NetAt.post {W w w' : World} {a t : Nat} {vals : List Value} {to' : List (List Pk)} {c' : List Int} (hb : ∀ x ∈ blocksOf a t vals, W.heap.size ≤ x) (hk : Keeps [] W w) (h : NetPost w w' a t vals to' c') : NetAt W w' a t to' c' := by
  obtain ⟨v, h1, h2⟩ := h
  refine ⟨v, h1, fun x hx => ?_, hk.trans h2.keeps fun x hx hlt => by have := hb x hx; omega⟩
  rcases h2.sub x hx with h3 | h3
  · exact hb x h3
  · exact Nat.le_trans hk.size h3

theorem NetAt.keep {W w w' : World} {a t : Nat} {to : List (List Pk)} {c : List Int} (h : NetAt W w a t to c) (k : Keeps [] w w') : NetAt W w' a t to c := by
  obtain ⟨vals, h1, h2, h3⟩ := h
  exact ⟨vals, h1.keep k (by simp), h2, h3.then k⟩
theorem NetAt.old {W w : World} {a t : Nat} {to : List (List Pk)} {c : List Int} (h : NetAt W w a t to c) : Keeps [] W w := by
  obtain ⟨vals, h1, h2, h3⟩ := h
  exact h3

theorem new_at (n : Nat) (w : World) (h1 : 1 ≤ n) (h2 : n ≤ 17) : Calls Try.prog 7 #[.int .i64 n] w fun e w' => e = .returned (.tuple #[.pointer (some ⟨w.heap.size + 1, 0, none⟩), .int .i64 0]) ∧ NetAt w w' (w.heap.size + 1) w.heap.size (List.replicate n []) [0, 0, 0, 0] :=
  (new_yes n w h1 h2).mono fun e w' ⟨he, h1, h2⟩ => ⟨he, _, h1, fun x hx => by
    have : (List.replicate n (Value.slice none 0 0)).filterMap Value.ownBlock = [] := by
      rw [List.filterMap_eq_nil_iff]
      intro x hx
      rw [List.mem_replicate] at hx
      rw [hx.2]; rfl
    simp only [blocksOf, this, List.mem_cons, List.not_mem_nil, or_false] at hx
    omega, h2⟩

theorem send_at {W w : World} {a t : Nat} {to : List (List Pk)} {c : List Int} (fr x : Int) (b : ByteArray) (h : NetAt W w a t to c) :
    Calls Try.prog 9 #[.pointer (some ⟨a, 0, none⟩), .int .i64 fr, .int .i64 x, .string b] w fun e w' => e = .returned (.int .i64 (sendM to c fr x b).2.2) ∧ NetAt W w' a t (sendM to c fr x b).1 (sendM to c fr x b).2.1 := by
  obtain ⟨vals, h1, h2, h3⟩ := h
  exact (send_any fr x b w h1).mono fun e w' ⟨he, hp⟩ => ⟨he, NetAt.post h2 h3 hp⟩
theorem take_at {W w : World} {a t : Nat} {to : List (List Pk)} {c : List Int} (x i : Int) (h : NetAt W w a t to c) :
    Calls Try.prog 11 #[.pointer (some ⟨a, 0, none⟩), .int .i64 x, .int .i64 i] w fun e w' => e = .returned (.tuple #[.int .i64 (getM to x i).1.1, .string (getM to x i).1.2, .int .i64 (getM to x i).2]) ∧ NetAt W w' a t (pullM to c x i 3).1 (pullM to c x i 3).2 := by
  obtain ⟨vals, h1, h2, h3⟩ := h
  exact (take_any x i w h1).mono fun e w' ⟨he, hp⟩ => ⟨he, NetAt.post h2 h3 hp⟩
theorem lose_at {W w : World} {a t : Nat} {to : List (List Pk)} {c : List Int} (x i : Int) (h : NetAt W w a t to c) :
    Calls Try.prog 17 #[.pointer (some ⟨a, 0, none⟩), .int .i64 x, .int .i64 i] w fun e w' => e = .returned (.int .i64 (getM to x i).2) ∧ NetAt W w' a t (pullM to c x i 1).1 (pullM to c x i 1).2 := by
  obtain ⟨vals, h1, h2, h3⟩ := h
  exact (lose_any x i w h1).mono fun e w' ⟨he, hp⟩ => ⟨he, NetAt.post h2 h3 hp⟩
theorem copy_at {W w : World} {a t : Nat} {to : List (List Pk)} {c : List Int} (x i : Int) (h : NetAt W w a t to c) :
    Calls Try.prog 15 #[.pointer (some ⟨a, 0, none⟩), .int .i64 x, .int .i64 i] w fun e w' => e = .returned (.int .i64 (copyM to c x i).2.2) ∧ NetAt W w' a t (copyM to c x i).1 (copyM to c x i).2.1 := by
  obtain ⟨vals, h1, h2, h3⟩ := h
  exact (copy_any x i w h1).mono fun e w' ⟨he, hp⟩ => ⟨he, NetAt.post h2 h3 hp⟩
theorem clear_at {W w : World} {a t : Nat} {to : List (List Pk)} {c : List Int} (x : Int) (h : NetAt W w a t to c) :
    Calls Try.prog 16 #[.pointer (some ⟨a, 0, none⟩), .int .i64 x] w fun e w' => e = .returned (.tuple #[.int .i64 (clearM to c x).2.2.1, .int .i64 (clearM to c x).2.2.2]) ∧ NetAt W w' a t (clearM to c x).1 (clearM to c x).2.1 := by
  obtain ⟨vals, h1, h2, h3⟩ := h
  exact (clear_any x w h1).mono fun e w' ⟨he, hp⟩ => ⟨he, NetAt.post h2 h3 hp⟩
theorem way_at {W w : World} {a t : Nat} {to : List (List Pk)} {c : List Int} (x : Int) (h : NetAt W w a t to c) :
    Calls Try.prog 18 #[.pointer (some ⟨a, 0, none⟩), .int .i64 x] w fun e w' => e = .returned (.tuple #[.int .i64 (wayM to x).1, .int .i64 (wayM to x).2]) ∧ NetAt W w' a t to c := by
  obtain ⟨vals, h1, h2, h3⟩ := id h
  exact (way_any x w h1).mono fun e w' ⟨he, hp⟩ => ⟨he, h.keep hp⟩
theorem counts_at {W w : World} {a t : Nat} {to : List (List Pk)} {c : List Int} (h : NetAt W w a t to c) :
    Calls Try.prog 14 #[.pointer (some ⟨a, 0, none⟩)] w fun e w' => e = .returned (.agg (c.map (.int .i64)).toArray) ∧ NetAt W w' a t to c := by
  obtain ⟨vals, h1, h2, h3⟩ := id h
  exact (counts_any w h1).mono fun e w' ⟨he, hp⟩ => ⟨he, h.keep hp⟩

end Go.Proofs.Ytgkdlpbnhjfkdaa
