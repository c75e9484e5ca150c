/- A net and the reference's net side by side. Conditions: those of each theorem. -/
import Derived.Test.YtgkdlpbnhjfkdaaRefG
namespace Go.Proofs.Ytgkdlpbnhjfkdaa
open Go.RowKit

/-- Two nets of the call's own, in blocks apart. -/
def Two (W w : World) (a t r s : Nat) (to : List (List Pk)) (c : List Int) (to2 : List (List Pk)) (c2 : List Int) (X : List (Nat × Obj)) : Prop :=
  ∃ v v2, NetRep w a t v to c ∧ RefRep w r s v2 to2 c2 ∧ (∀ x ∈ blocksOf a t v, x ∉ blocksOf r s v2) ∧ (∀ x ∈ blocksOf a t v, W.heap.size ≤ x) ∧ (∀ x ∈ blocksOf r s v2, W.heap.size ≤ x) ∧ Keeps [] W w ∧ ∀ q ∈ X, w.heap[q.1]? = some q.2 ∧ q.1 ∉ blocksOf a t v ∧ q.1 ∉ blocksOf r s v2

theorem Two.old {W w : World} {a t r s : Nat} {to c to2 c2 X} (h : Two W w a t r s to c to2 c2 X) : Keeps [] W w := by
  obtain ⟨v, v2, h1, h2, h3, h4, h5, h6, h7⟩ := h
  exact h6

theorem Two.keep {W w w' : World} {a t r s : Nat} {to c to2 c2 X} (h : Two W w a t r s to c to2 c2 X) (k : Keeps [] w w') : Two W w' a t r s to c to2 c2 X := by
  obtain ⟨v, v2, h1, h2, h3, h4, h5, h6, h7⟩ := h
  exact ⟨v, v2, h1.keep k (by simp), h2.keep k (by simp), h3, h4, h5, h6.then k, fun q hq => ⟨k.heap (h7 q hq).1 (by simp), (h7 q hq).2⟩⟩

theorem Two.box {W w : World} {a t r s : Nat} {to c to2 c2 X} (h : Two W w a t r s to c to2 c2 X) (o : Obj) : Two W (w.alloc o) a t r s to c to2 c2 ((w.heap.size, o) :: X) := by
  obtain ⟨v, v2, h1, h2, h3, h4, h5, h6, h7⟩ := h
  have k : Keeps [] w (w.alloc o) := (Keeps.refl _ _).alloc _
  refine ⟨v, v2, h1.keep k (by simp), h2.keep k (by simp), h3, h4, h5, h6.then k, fun q hq => ?_⟩
  rcases List.mem_cons.1 hq with rfl | hq
  · exact ⟨heap_alloc_new _ _, fun hm => by have := h1.blocks_lt _ hm; simp at this, fun hm => by have := h2.blocks_lt _ hm; simp at this⟩
  · exact ⟨k.heap (h7 q hq).1 (by simp), (h7 q hq).2⟩

theorem Two.unbox {W w : World} {a t r s : Nat} {to c to2 c2 X q} (h : Two W w a t r s to c to2 c2 (q :: X)) : Two W w a t r s to c to2 c2 X := by
  obtain ⟨v, v2, h1, h2, h3, h4, h5, h6, h7⟩ := h
  exact ⟨v, v2, h1, h2, h3, h4, h5, h6, fun q hq => h7 q (List.mem_cons_of_mem _ hq)⟩

theorem Two.held {W w : World} {a t r s : Nat} {to c to2 c2 X B o} (h : Two W w a t r s to c to2 c2 ((B, o) :: X)) : w.heap[B]? = some o := by
  obtain ⟨v, v2, h1, h2, h3, h4, h5, h6, h7⟩ := h
  exact (h7 (B, o) (by simp)).1

/-- What such a pair is told of other blocks that the call made itself. -/
theorem Two.net {W w w' : World} {a t r s : Nat} {v v2 : List Value} {to c to2 c2 to' c'} (h1 : NetRep w a t v to c) (h2 : RefRep w r s v2 to2 c2) (h3 : ∀ x ∈ blocksOf a t v, x ∉ blocksOf r s v2) (h4 : ∀ x ∈ blocksOf a t v, W.heap.size ≤ x) (h5 : ∀ x ∈ blocksOf r s v2, W.heap.size ≤ x) {X : List (Nat × Obj)} (h6 : Keeps [] W w) (h7 : ∀ q ∈ X, w.heap[q.1]? = some q.2 ∧ q.1 ∉ blocksOf a t v ∧ q.1 ∉ blocksOf r s v2)
    (h : NetPost w w' a t v to' c') : Two W w' a t r s to' c' to2 c2 X := by
  obtain ⟨v', g1, g2⟩ := h
  have hlt := h2.blocks_lt
  refine ⟨v', v2, g1, h2.keep g2.keeps (fun x hx hm => h3 x hm hx), fun x hx hm => ?_, fun x hx => ?_, h5, h6.trans g2.keeps fun x hx hl => by have := h4 x hx; omega, fun q hq => ⟨g2.keeps.heap (h7 q hq).1 (h7 q hq).2.1, fun hm => ?_, (h7 q hq).2.2⟩⟩
  · rcases g2.sub x hx with h | h
    · exact h3 x h hm
    · have := hlt x hm; omega
  · rcases g2.sub x hx with h | h
    · exact h4 x h
    · exact Nat.le_trans h6.size h
  · rcases g2.sub _ hm with h | h
    · exact (h7 q hq).2.1 h
    · have := heap_lt (h7 q hq).1; omega

theorem Two.ref {W w w' : World} {a t r s : Nat} {v v2 : List Value} {to c to2 c2 to' c'} (h1 : NetRep w a t v to c) (_h2 : RefRep w r s v2 to2 c2) (h3 : ∀ x ∈ blocksOf a t v, x ∉ blocksOf r s v2) (h4 : ∀ x ∈ blocksOf a t v, W.heap.size ≤ x) (h5 : ∀ x ∈ blocksOf r s v2, W.heap.size ≤ x) {X : List (Nat × Obj)} (h6 : Keeps [] W w) (h7 : ∀ q ∈ X, w.heap[q.1]? = some q.2 ∧ q.1 ∉ blocksOf a t v ∧ q.1 ∉ blocksOf r s v2)
    (h : RefPost w w' r s v2 to' c') : Two W w' a t r s to c to' c' X := by
  obtain ⟨v', g1, g2⟩ := h
  have hlt := h1.blocks_lt
  refine ⟨v, v', h1.keep g2.keeps (fun x hx hm => h3 x hx hm), g1, fun x hx hm => ?_, h4, fun x hx => ?_, h6.trans g2.keeps fun x hx hl => by have := h5 x hx; omega, fun q hq => ⟨g2.keeps.heap (h7 q hq).1 (h7 q hq).2.2, (h7 q hq).2.1, fun hm => ?_⟩⟩
  · rcases g2.sub x hm with h | h
    · exact h3 x hx h
    · have := hlt x hx; omega
  · rcases g2.sub x hx with h | h
    · exact h5 x h
    · exact Nat.le_trans h6.size h
  · rcases g2.sub _ hm with h | h
    · exact (h7 q hq).2.2 h
    · have := heap_lt (h7 q hq).1; omega

theorem two_send {W w : World} {a t r s : Nat} {to : List (List Pk)} {c : List Int} {to2 : List (List Pk)} {c2 : List Int} {X : List (Nat × Obj)} (fr x : Int) (b : ByteArray) (h : Two W w a t r s to c to2 c2 X) :
    Calls Try.prog 9 #[.pointer (some ⟨a, 0, none⟩), .int .i64 fr, .int .i64 x, .string b] w fun e w' => e = .returned (.int .i64 (sendM to c fr x b).2.2) ∧ Two W w' a t r s ((sendM to c fr x b).1) ((sendM to c fr x b).2.1) to2 c2 X := by
  obtain ⟨v, v2, h1, h2, h3, h4, h5, h6, h7⟩ := h
  exact (send_any fr x b w h1).mono fun e w' ⟨he, hp⟩ => ⟨he, Two.net h1 h2 h3 h4 h5 h6 h7 hp⟩

theorem two_send2 {W w : World} {a t r s : Nat} {to : List (List Pk)} {c : List Int} {to2 : List (List Pk)} {c2 : List Int} {X : List (Nat × Obj)} (fr x : Int) (b : ByteArray) (h : Two W w a t r s to c to2 c2 X) (hb : b.size ≤ 9223372036854775807) :
    Calls Try.prog 22 #[.pointer (some ⟨r, 0, none⟩), .int .i64 fr, .int .i64 x, .string b] w fun e w' => e = .returned (.int .i64 (sendM to2 c2 fr x b).2.2) ∧ Two W w' a t r s to c ((sendM to2 c2 fr x b).1) ((sendM to2 c2 fr x b).2.1) X := by
  obtain ⟨v, v2, h1, h2, h3, h4, h5, h6, h7⟩ := h
  exact (ref_send fr x b w h2 hb).mono fun e w' ⟨he, hp⟩ => ⟨he, Two.ref h1 h2 h3 h4 h5 h6 h7 hp⟩

theorem two_take {W w : World} {a t r s : Nat} {to : List (List Pk)} {c : List Int} {to2 : List (List Pk)} {c2 : List Int} {X : List (Nat × Obj)} (x i : Int) (h : Two W w a t r s to c to2 c2 X) :
    Calls Try.prog 11 #[.pointer (some ⟨a, 0, none⟩), .int .i64 x, .int .i64 i] w fun e w' => e = .returned (.tuple #[.int .i64 (getM to x i).1.1, .string (getM to x i).1.2, .int .i64 (getM to x i).2]) ∧ Two W w' a t r s ((pullM to c x i 3).1) ((pullM to c x i 3).2) to2 c2 X := by
  obtain ⟨v, v2, h1, h2, h3, h4, h5, h6, h7⟩ := h
  exact (take_any x i w h1).mono fun e w' ⟨he, hp⟩ => ⟨he, Two.net h1 h2 h3 h4 h5 h6 h7 hp⟩

theorem two_take2 {W w : World} {a t r s : Nat} {to : List (List Pk)} {c : List Int} {to2 : List (List Pk)} {c2 : List Int} {X : List (Nat × Obj)} (x i : Int) (h : Two W w a t r s to c to2 c2 X) :
    Calls Try.prog 23 #[.pointer (some ⟨r, 0, none⟩), .int .i64 x, .int .i64 i] w fun e w' => e = .returned (.tuple #[.int .i64 (getM to2 x i).1.1, .string (getM to2 x i).1.2, .int .i64 (getM to2 x i).2]) ∧ Two W w' a t r s to c ((pullM to2 c2 x i 3).1) ((pullM to2 c2 x i 3).2) X := by
  obtain ⟨v, v2, h1, h2, h3, h4, h5, h6, h7⟩ := h
  exact (ref_take x i w h2).mono fun e w' ⟨he, hp⟩ => ⟨he, Two.ref h1 h2 h3 h4 h5 h6 h7 hp⟩

theorem two_lose {W w : World} {a t r s : Nat} {to : List (List Pk)} {c : List Int} {to2 : List (List Pk)} {c2 : List Int} {X : List (Nat × Obj)} (x i : Int) (h : Two W w a t r s to c to2 c2 X) :
    Calls Try.prog 17 #[.pointer (some ⟨a, 0, none⟩), .int .i64 x, .int .i64 i] w fun e w' => e = .returned (.int .i64 (getM to x i).2) ∧ Two W w' a t r s ((pullM to c x i 1).1) ((pullM to c x i 1).2) to2 c2 X := by
  obtain ⟨v, v2, h1, h2, h3, h4, h5, h6, h7⟩ := h
  exact (lose_any x i w h1).mono fun e w' ⟨he, hp⟩ => ⟨he, Two.net h1 h2 h3 h4 h5 h6 h7 hp⟩

theorem two_lose2 {W w : World} {a t r s : Nat} {to : List (List Pk)} {c : List Int} {to2 : List (List Pk)} {c2 : List Int} {X : List (Nat × Obj)} (x i : Int) (h : Two W w a t r s to c to2 c2 X) :
    Calls Try.prog 24 #[.pointer (some ⟨r, 0, none⟩), .int .i64 x, .int .i64 i] w fun e w' => e = .returned (.int .i64 (getM to2 x i).2) ∧ Two W w' a t r s to c ((pullM to2 c2 x i 1).1) ((pullM to2 c2 x i 1).2) X := by
  obtain ⟨v, v2, h1, h2, h3, h4, h5, h6, h7⟩ := h
  exact (ref_lose x i w h2).mono fun e w' ⟨he, hp⟩ => ⟨he, Two.ref h1 h2 h3 h4 h5 h6 h7 hp⟩

theorem two_copy {W w : World} {a t r s : Nat} {to : List (List Pk)} {c : List Int} {to2 : List (List Pk)} {c2 : List Int} {X : List (Nat × Obj)} (x i : Int) (h : Two W w a t r s to c to2 c2 X) :
    Calls Try.prog 15 #[.pointer (some ⟨a, 0, none⟩), .int .i64 x, .int .i64 i] w fun e w' => e = .returned (.int .i64 (copyM to c x i).2.2) ∧ Two W w' a t r s ((copyM to c x i).1) ((copyM to c x i).2.1) to2 c2 X := by
  obtain ⟨v, v2, h1, h2, h3, h4, h5, h6, h7⟩ := h
  exact (copy_any x i w h1).mono fun e w' ⟨he, hp⟩ => ⟨he, Two.net h1 h2 h3 h4 h5 h6 h7 hp⟩

theorem two_copy2 {W w : World} {a t r s : Nat} {to : List (List Pk)} {c : List Int} {to2 : List (List Pk)} {c2 : List Int} {X : List (Nat × Obj)} (x i : Int) (h : Two W w a t r s to c to2 c2 X) (hs : Short to2) :
    Calls Try.prog 25 #[.pointer (some ⟨r, 0, none⟩), .int .i64 x, .int .i64 i] w fun e w' => e = .returned (.int .i64 (copyM to2 c2 x i).2.2) ∧ Two W w' a t r s to c ((copyM to2 c2 x i).1) ((copyM to2 c2 x i).2.1) X := by
  obtain ⟨v, v2, h1, h2, h3, h4, h5, h6, h7⟩ := h
  exact (ref_copy x i w h2 hs).mono fun e w' ⟨he, hp⟩ => ⟨he, Two.ref h1 h2 h3 h4 h5 h6 h7 hp⟩

theorem two_clear {W w : World} {a t r s : Nat} {to : List (List Pk)} {c : List Int} {to2 : List (List Pk)} {c2 : List Int} {X : List (Nat × Obj)} (x : Int) (h : Two W w a t r s to c to2 c2 X) :
    Calls Try.prog 16 #[.pointer (some ⟨a, 0, none⟩), .int .i64 x] w fun e w' => e = .returned (.tuple #[.int .i64 (clearM to c x).2.2.1, .int .i64 (clearM to c x).2.2.2]) ∧ Two W w' a t r s ((clearM to c x).1) ((clearM to c x).2.1) to2 c2 X := by
  obtain ⟨v, v2, h1, h2, h3, h4, h5, h6, h7⟩ := h
  exact (clear_any x w h1).mono fun e w' ⟨he, hp⟩ => ⟨he, Two.net h1 h2 h3 h4 h5 h6 h7 hp⟩

theorem two_clear2 {W w : World} {a t r s : Nat} {to : List (List Pk)} {c : List Int} {to2 : List (List Pk)} {c2 : List Int} {X : List (Nat × Obj)} (x : Int) (h : Two W w a t r s to c to2 c2 X) :
    Calls Try.prog 26 #[.pointer (some ⟨r, 0, none⟩), .int .i64 x] w fun e w' => e = .returned (.tuple #[.int .i64 (clearM to2 c2 x).2.2.1, .int .i64 (clearM to2 c2 x).2.2.2]) ∧ Two W w' a t r s to c ((clearM to2 c2 x).1) ((clearM to2 c2 x).2.1) X := by
  obtain ⟨v, v2, h1, h2, h3, h4, h5, h6, h7⟩ := h
  exact (ref_clear x w h2).mono fun e w' ⟨he, hp⟩ => ⟨he, Two.ref h1 h2 h3 h4 h5 h6 h7 hp⟩

theorem two_way {W w : World} {a t r s : Nat} {to : List (List Pk)} {c : List Int} {to2 : List (List Pk)} {c2 : List Int} {X : List (Nat × Obj)} (x : Int) (h : Two W w a t r s to c to2 c2 X) :
    Calls Try.prog 18 #[.pointer (some ⟨a, 0, none⟩), .int .i64 x] w fun e w' => e = .returned (.tuple #[.int .i64 (wayM to x).1, .int .i64 (wayM to x).2]) ∧ Two W w' a t r s to c to2 c2 X := by
  have hh := h
  obtain ⟨v, v2, h1, h2, h3, h4, h5, h6, h7⟩ := h
  exact (way_any x w h1).mono fun e w' ⟨he, hp⟩ => ⟨he, hh.keep hp⟩

theorem two_way2 {W w : World} {a t r s : Nat} {to : List (List Pk)} {c : List Int} {to2 : List (List Pk)} {c2 : List Int} {X : List (Nat × Obj)} (x : Int) (h : Two W w a t r s to c to2 c2 X) :
    Calls Try.prog 27 #[.pointer (some ⟨r, 0, none⟩), .int .i64 x] w fun e w' => e = .returned (.tuple #[.int .i64 (wayM to2 x).1, .int .i64 (wayM to2 x).2]) ∧ Two W w' a t r s to c to2 c2 X := by
  have hh := h
  obtain ⟨v, v2, h1, h2, h3, h4, h5, h6, h7⟩ := h
  exact (ref_way x w h2).mono fun e w' ⟨he, hp⟩ => ⟨he, hp ▸ hh⟩

theorem two_counts {W w : World} {a t r s : Nat} {to : List (List Pk)} {c : List Int} {to2 : List (List Pk)} {c2 : List Int} {X : List (Nat × Obj)}  (h : Two W w a t r s to c to2 c2 X) :
    Calls Try.prog 14 #[.pointer (some ⟨a, 0, none⟩)] w fun e w' => e = .returned (.agg (c.map (.int .i64)).toArray) ∧ Two W w' a t r s to c to2 c2 X := by
  have hh := h
  obtain ⟨v, v2, h1, h2, h3, h4, h5, h6, h7⟩ := h
  exact (counts_any w h1).mono fun e w' ⟨he, hp⟩ => ⟨he, hh.keep hp⟩


theorem short_put {to : List (List Pk)} {c : List Int} {y k : Nat} {p : Pk} (h : Short to) : Short (putM to c y p k).1 := by
  simp only [putM]
  split
  · exact h
  · rename_i hc
    intro l hl q hq
    rcases List.mem_or_eq_of_mem_set hl with h1 | h1
    · exact h l h1 q hq
    · subst h1
      rcases List.mem_append.1 hq with h2 | h2
      · rw [List.getD_eq_getElem?_getD] at h2
        cases h3 : to[y]? with
        | none => rw [h3] at h2; cases h2
        | some m => rw [h3] at h2; exact h m (List.mem_of_getElem? h3) q h2
      · simp only [List.mem_singleton] at h2
        subst h2
        omega
theorem short_send {to : List (List Pk)} {c : List Int} {fr x : Int} {b : ByteArray} (h : Short to) : Short (sendM to c fr x b).1 := by
  simp only [sendM]
  split
  · exact h
  · exact short_put h
theorem short_copy {to : List (List Pk)} {c : List Int} {x i : Int} (h : Short to) : Short (copyM to c x i).1 := by
  simp only [copyM]
  split
  · exact short_put h
  · exact h
theorem short_pull {to : List (List Pk)} {c : List Int} {x i : Int} {k : Nat} (h : Short to) : Short (pullM to c x i k).1 := by
  simp only [pullM]
  split
  · intro l hl q hq
    rcases List.mem_or_eq_of_mem_set hl with h1 | h1
    · exact h l h1 q hq
    · subst h1
      have h2 := List.mem_of_mem_eraseIdx hq
      rw [List.getD_eq_getElem?_getD] at h2
      cases h3 : to[x.toNat]? with
      | none => rw [h3] at h2; cases h2
      | some m => rw [h3] at h2; exact h m (List.mem_of_getElem? h3) q h2
  · exact h
theorem short_clear {to : List (List Pk)} {c : List Int} {x : Int} (h : Short to) : Short (clearM to c x).1 := by
  simp only [clearM]
  split
  · exact h
  · intro l hl q hq
    obtain ⟨i, hi, rfl⟩ := List.getElem_of_mem hl
    have hi' : i < to.length := by simpa [clrTo] using hi
    simp only [clrTo, List.getElem_mapIdx, hi', if_true] at hq
    unfold clr at hq
    exact h _ (List.getElem_mem hi') q (List.mem_filter.1 hq).1

theorem new_two (n : Nat) (w : World) (h1 : 1 ≤ n) (h2 : n ≤ 17) : Calls Try.prog 7 #[.int .i64 n] w fun e w' => e = .returned (.tuple #[.pointer (some ⟨w.heap.size + 1, 0, none⟩), .int .i64 0]) ∧ NetAt w w' (w.heap.size + 1) w.heap.size (List.replicate n []) [0, 0, 0, 0] :=
  new_at n w h1 h2
theorem new_two2 {W w : World} {a t : Nat} {to : List (List Pk)} {c : List Int} (n : Nat) (h : NetAt W w a t to c) (h1 : 1 ≤ n) (h2 : n ≤ 17) : Calls Try.prog 12 #[.int .i64 n] w fun e w' => e = .returned (.tuple #[.pointer (some ⟨w.heap.size + 1, 0, none⟩), .int .i64 0]) ∧ Two W w' a t (w.heap.size + 1) w.heap.size to c (List.replicate n []) [0, 0, 0, 0] [] := by
  obtain ⟨v, g1, g2, g3⟩ := h
  refine (ref_new_yes n w h1 h2).mono fun e w' ⟨he, h1, h2⟩ => ⟨he, v, _, g1.keep h2 (by simp), h1, ?_, g2, ?_, g3.then h2, by simp⟩
  all_goals
    have hb : (List.replicate n (Value.slice none 0 0)).filterMap Value.ownBlock = [] := by
      rw [List.filterMap_eq_nil_iff]
      intro x hx
      rw [List.mem_replicate] at hx
      rw [hx.2]; rfl
    have hbl : blocksOf (w.heap.size + 1) w.heap.size (List.replicate n (Value.slice none 0 0)) = [w.heap.size + 1, w.heap.size] := by simp only [blocksOf, hb]
    rw [hbl]
    intro x hx
  · have := g1.blocks_lt x hx
    simp only [List.mem_cons, List.not_mem_nil, or_false]
    omega
  · have := g3.size
    simp only [List.mem_cons, List.not_mem_nil, or_false] at hx
    omega

end Go.Proofs.Ytgkdlpbnhjfkdaa
