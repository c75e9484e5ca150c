/- A net and two counting maps of the call's own. Conditions: those of each theorem. -/
import Derived.Test.YtgkdlpbnhjfkdaaTruB
namespace Go.Proofs.Ytgkdlpbnhjfkdaa
open Go.RowKit Go.WideElems Go.MapKept Go.ChangeMaps

def Tru (W w : World) (a t : Nat) (to : List (List Pk)) (c : List Int) (M N : Nat) (g h : Pk3 → Int) (X : List (Nat × Obj)) : Prop :=
  ∃ v, NetRep w a t v to c ∧ (∀ x ∈ blocksOf a t v, W.heap.size ≤ x) ∧ Keeps [] W w ∧ CMap w M g ∧ CMap w N h ∧ M ∉ blocksOf a t v ∧ N ∉ blocksOf a t v ∧ M ≠ N ∧ W.heap.size ≤ M ∧ W.heap.size ≤ N ∧
    ∀ q ∈ X, w.heap[q.1]? = some q.2 ∧ q.1 ∉ blocksOf a t v ∧ q.1 ≠ M ∧ q.1 ≠ N

section
variable {W w w' : World} {a t M N : Nat} {to : List (List Pk)} {c : List Int} {g h g' h' : Pk3 → Int} {X : List (Nat × Obj)}

theorem Tru.old (T : Tru W w a t to c M N g h X) : Keeps [] W w := by
  obtain ⟨v, h1, h2, h3, _⟩ := T
  exact h3
theorem Tru.keep (T : Tru W w a t to c M N g h X) (k : Keeps [] w w') : Tru W w' a t to c M N g h X := by
  obtain ⟨v, h1, h2, h3, h4, h5, h6, h7, h8, h9, h10, h11⟩ := T
  exact ⟨v, h1.keep k (by simp), h2, h3.then k, h4.keep k (by simp), h5.keep k (by simp), h6, h7, h8, h9, h10, fun q hq => ⟨k.heap (h11 q hq).1 (by simp), (h11 q hq).2⟩⟩
theorem heap_setBlock {b : Nat} {o : Obj} (hb : b < w.heap.size) : (setBlock w b o).heap[b]? = some o := by simp [setBlock, hb]
theorem keeps_setBlock {b : Nat} (o : Obj) (_hb : b < w.heap.size) : Keeps [b] w (setBlock w b o) := by
  refine ⟨rfl, rfl, rfl, by simp [setBlock], fun x hx hn => ?_⟩
  have hne : b ≠ x := by
    rintro rfl
    exact hn (by simp)
  simp [setBlock, Array.getElem?_setIfInBounds, hne]
theorem CMap.lt {B : Nat} {g : Pk3 → Int} (T : CMap w B g) : B < w.heap.size := by
  obtain ⟨es, c, h1, _⟩ := T
  exact heap_lt h1
theorem Tru.box (T : Tru W w a t to c M N g h X) (o : Obj) : Tru W (w.alloc o) a t to c M N g h ((w.heap.size, o) :: X) := by
  obtain ⟨v, h1, h2, h3, h4, h5, h6, h7, h8, h9, h10, h11⟩ := T
  have k : Keeps [] w (w.alloc o) := (Keeps.refl _ _).alloc _
  have l4 := h4.lt
  have l5 := h5.lt
  refine ⟨v, h1.keep k (by simp), h2, h3.then k, h4.keep k (by simp), h5.keep k (by simp), h6, h7, h8, h9, h10, fun q hq => ?_⟩
  rcases List.mem_cons.1 hq with rfl | hq
  · exact ⟨heap_alloc_new _ _, fun hm => by have := h1.blocks_lt _ hm; simp at this, by simp only; omega, by simp only; omega⟩
  · exact ⟨k.heap (h11 q hq).1 (by simp), (h11 q hq).2⟩
theorem Tru.unbox {q} (T : Tru W w a t to c M N g h (q :: X)) : Tru W w a t to c M N g h X := by
  obtain ⟨v, h1, h2, h3, h4, h5, h6, h7, h8, h9, h10, h11⟩ := T
  exact ⟨v, h1, h2, h3, h4, h5, h6, h7, h8, h9, h10, fun q hq => h11 q (List.mem_cons_of_mem _ hq)⟩
theorem Tru.held {B o} (T : Tru W w a t to c M N g h ((B, o) :: X)) : w.heap[B]? = some o := by
  obtain ⟨v, h1, h2, h3, h4, h5, h6, h7, h8, h9, h10, h11⟩ := T
  exact (h11 (B, o) (by simp)).1
theorem Tru.map1 (T : Tru W w a t to c M N g h X) : CMap w M g := by
  obtain ⟨v, h1, h2, h3, h4, h5, h6, h7, h8, h9, h10, h11⟩ := T
  exact h4
theorem Tru.map2 (T : Tru W w a t to c M N g h X) : CMap w N h := by
  obtain ⟨v, h1, h2, h3, h4, h5, h6, h7, h8, h9, h10, h11⟩ := T
  exact h5
theorem Tru.set1 {es clock} (T : Tru W w a t to c M N g h X) (F : Fits g' es clock) : Tru W (setBlock w M (.map es clock)) a t to c M N g' h X := by
  obtain ⟨v, h1, h2, h3, h4, h5, h6, h7, h8, h9, h10, h11⟩ := T
  have k := keeps_setBlock (w := w) (.map es clock) h4.lt
  refine ⟨v, h1.keep k ?_, h2, h3.trans k (by simp; omega), ⟨es, clock, heap_setBlock h4.lt, F⟩, h5.keep k (by simpa using h8.symm), h6, h7, h8, h9, h10, fun q hq => ⟨k.heap (h11 q hq).1 (by simpa using (h11 q hq).2.2.1), (h11 q hq).2⟩⟩
  intro x hx hm
  simp only [List.mem_singleton] at hm
  subst hm
  exact h6 hx
theorem Tru.set2 {es clock} (T : Tru W w a t to c M N g h X) (F : Fits h' es clock) : Tru W (setBlock w N (.map es clock)) a t to c M N g h' X := by
  obtain ⟨v, h1, h2, h3, h4, h5, h6, h7, h8, h9, h10, h11⟩ := T
  have k := keeps_setBlock (w := w) (.map es clock) h5.lt
  refine ⟨v, h1.keep k ?_, h2, h3.trans k (by simp; omega), h4.keep k (by simpa using h8), ⟨es, clock, heap_setBlock h5.lt, F⟩, h6, h7, h8, h9, h10, fun q hq => ⟨k.heap (h11 q hq).1 (by simpa using (h11 q hq).2.2.2), (h11 q hq).2⟩⟩
  intro x hx hm
  simp only [List.mem_singleton] at hm
  subst hm
  exact h7 hx
theorem Tru.net {v : List Value} {to' : List (List Pk)} {c' : List Int} (h1 : NetRep w a t v to c) (h2 : ∀ x ∈ blocksOf a t v, W.heap.size ≤ x) (h3 : Keeps [] W w) (h4 : CMap w M g) (h5 : CMap w N h) (h6 : M ∉ blocksOf a t v) (h7 : N ∉ blocksOf a t v) (h8 : M ≠ N) (h9 : W.heap.size ≤ M) (h10 : W.heap.size ≤ N)
    (h11 : ∀ q ∈ X, w.heap[q.1]? = some q.2 ∧ q.1 ∉ blocksOf a t v ∧ q.1 ≠ M ∧ q.1 ≠ N) (p : NetPost w w' a t v to' c') : Tru W w' a t to' c' M N g h X := by
  obtain ⟨v', g1, g2⟩ := p
  have old : ∀ y, y < w.heap.size → y ∉ blocksOf a t v → y ∉ blocksOf a t v' := by
    intro y hy hn hm
    rcases g2.sub y hm with h | h
    · exact hn h
    · omega
  refine ⟨v', g1, fun x hx => ?_, h3.trans g2.keeps fun x hx hl => by have := h2 x hx; omega, h4.keep g2.keeps h6, h5.keep g2.keeps h7, old M h4.lt h6, old N h5.lt h7, h8, h9, h10, fun q hq => ⟨g2.keeps.heap (h11 q hq).1 (h11 q hq).2.1, old _ (heap_lt (h11 q hq).1) (h11 q hq).2.1, (h11 q hq).2.2⟩⟩
  rcases g2.sub x hx with h | h
  · exact h2 x h
  · exact Nat.le_trans h3.size h
end

theorem tru_send {W w : World} {a t M N : Nat} {to : List (List Pk)} {c : List Int} {g h : Pk3 → Int} {X : List (Nat × Obj)} (fr x : Int) (b : ByteArray) (H : Tru W w a t to c M N g h X) :
    Calls Try.prog 9 #[.pointer (some ⟨a, 0, none⟩), .int .i64 fr, .int .i64 x, .string b] w fun e w' => e = .returned (.int .i64 (sendM to c fr x b).2.2) ∧ Tru W w' a t ((sendM to c fr x b).1) ((sendM to c fr x b).2.1) M N g h X := by
  obtain ⟨v, h1, h2, h3, h4, h5, h6, h7, h8, h9, h10, h11⟩ := H
  exact (send_any fr x b w h1).mono fun e w' ⟨he, hp⟩ => ⟨he, Tru.net h1 h2 h3 h4 h5 h6 h7 h8 h9 h10 h11 hp⟩

theorem tru_take {W w : World} {a t M N : Nat} {to : List (List Pk)} {c : List Int} {g h : Pk3 → Int} {X : List (Nat × Obj)} (x i : Int) (H : Tru W w a t to c M N g h X) :
    Calls Try.prog 11 #[.pointer (some ⟨a, 0, none⟩), .int .i64 x, .int .i64 i] w fun e w' => e = .returned (.tuple #[.int .i64 (getM to x i).1.1, .string (getM to x i).1.2, .int .i64 (getM to x i).2]) ∧ Tru W w' a t ((pullM to c x i 3).1) ((pullM to c x i 3).2) M N g h X := by
  obtain ⟨v, h1, h2, h3, h4, h5, h6, h7, h8, h9, h10, h11⟩ := H
  exact (take_any x i w h1).mono fun e w' ⟨he, hp⟩ => ⟨he, Tru.net h1 h2 h3 h4 h5 h6 h7 h8 h9 h10 h11 hp⟩

theorem tru_lose {W w : World} {a t M N : Nat} {to : List (List Pk)} {c : List Int} {g h : Pk3 → Int} {X : List (Nat × Obj)} (x i : Int) (H : Tru W w a t to c M N g h X) :
    Calls Try.prog 17 #[.pointer (some ⟨a, 0, none⟩), .int .i64 x, .int .i64 i] w fun e w' => e = .returned (.int .i64 (getM to x i).2) ∧ Tru W w' a t ((pullM to c x i 1).1) ((pullM to c x i 1).2) M N g h X := by
  obtain ⟨v, h1, h2, h3, h4, h5, h6, h7, h8, h9, h10, h11⟩ := H
  exact (lose_any x i w h1).mono fun e w' ⟨he, hp⟩ => ⟨he, Tru.net h1 h2 h3 h4 h5 h6 h7 h8 h9 h10 h11 hp⟩

theorem tru_copy {W w : World} {a t M N : Nat} {to : List (List Pk)} {c : List Int} {g h : Pk3 → Int} {X : List (Nat × Obj)} (x i : Int) (H : Tru W w a t to c M N g h X) :
    Calls Try.prog 15 #[.pointer (some ⟨a, 0, none⟩), .int .i64 x, .int .i64 i] w fun e w' => e = .returned (.int .i64 (copyM to c x i).2.2) ∧ Tru W w' a t ((copyM to c x i).1) ((copyM to c x i).2.1) M N g h X := by
  obtain ⟨v, h1, h2, h3, h4, h5, h6, h7, h8, h9, h10, h11⟩ := H
  exact (copy_any x i w h1).mono fun e w' ⟨he, hp⟩ => ⟨he, Tru.net h1 h2 h3 h4 h5 h6 h7 h8 h9 h10 h11 hp⟩

theorem tru_clear {W w : World} {a t M N : Nat} {to : List (List Pk)} {c : List Int} {g h : Pk3 → Int} {X : List (Nat × Obj)} (x : Int) (H : Tru W w a t to c M N g h X) :
    Calls Try.prog 16 #[.pointer (some ⟨a, 0, none⟩), .int .i64 x] w fun e w' => e = .returned (.tuple #[.int .i64 (clearM to c x).2.2.1, .int .i64 (clearM to c x).2.2.2]) ∧ Tru W w' a t ((clearM to c x).1) ((clearM to c x).2.1) M N g h X := by
  obtain ⟨v, h1, h2, h3, h4, h5, h6, h7, h8, h9, h10, h11⟩ := H
  exact (clear_any x w h1).mono fun e w' ⟨he, hp⟩ => ⟨he, Tru.net h1 h2 h3 h4 h5 h6 h7 h8 h9 h10 h11 hp⟩

theorem tru_way {W w : World} {a t M N : Nat} {to : List (List Pk)} {c : List Int} {g h : Pk3 → Int} {X : List (Nat × Obj)} (x : Int) (H : Tru W w a t to c M N g h X) :
    Calls Try.prog 18 #[.pointer (some ⟨a, 0, none⟩), .int .i64 x] w fun e w' => e = .returned (.tuple #[.int .i64 (wayM to x).1, .int .i64 (wayM to x).2]) ∧ Tru W w' a t to c M N g h X := by
  have hh := H
  obtain ⟨v, h1, h2, h3, h4, h5, h6, h7, h8, h9, h10, h11⟩ := H
  exact (way_any x w h1).mono fun e w' ⟨he, hp⟩ => ⟨he, hh.keep hp⟩

theorem tru_counts {W w : World} {a t M N : Nat} {to : List (List Pk)} {c : List Int} {g h : Pk3 → Int} {X : List (Nat × Obj)}  (H : Tru W w a t to c M N g h X) :
    Calls Try.prog 14 #[.pointer (some ⟨a, 0, none⟩)] w fun e w' => e = .returned (.agg (c.map (.int .i64)).toArray) ∧ Tru W w' a t to c M N g h X := by
  have hh := H
  obtain ⟨v, h1, h2, h3, h4, h5, h6, h7, h8, h9, h10, h11⟩ := H
  exact (counts_any w h1).mono fun e w' ⟨he, hp⟩ => ⟨he, hh.keep hp⟩


theorem no3 {y : Nat} (hy : y < 3) : noNode 3 (y : Int) = false := by
  simp [noNode]; omega

/-- A send, as the law counts it. -/
theorem tru_sendM {K to c S T cp} (I : TInv K to c S T cp) (hK : K ≤ 200) {f y : Nat} (hf : f < 3) (hy : y < 3) {b : ByteArray} (hb : b.size ≤ maxLen) :
    ((sendM to c f y b).2.2 = 0 ∧ TInv (K + 1) (sendM to c f y b).1 (sendM to c f y b).2.1 (upd S ((f : Int), (y : Int), b) (S ((f : Int), (y : Int), b) + 1)) T cp) ∨
    ((sendM to c f y b).2.2 = 2 ∧ TInv (K + 1) (sendM to c f y b).1 (sendM to c f y b).2.1 S T cp) := by
  have e1 : noNode to.length (f : Int) = false := by rw [I.len]; exact no3 hf
  have e2 : noNode to.length (y : Int) = false := by rw [I.len]; exact no3 hy
  simp only [sendM, e1, e2, Bool.false_eq_true, or_self, if_false, putM, Int.toNat_natCast]
  split
  · right; exact ⟨rfl, I.more⟩
  · left; exact ⟨rfl, I.put hK hy (by omega) hb⟩

theorem tru_get {K to c S T cp} (I : TInv K to c S T cp) {y : Nat} (hy : y < 3) (i : Int) :
    ((getM to y i).2 = 5 ∧ (∀ k, pullM to c y i k = (to, c)) ∧ copyM to c y i = (to, c, 5)) ∨
    ∃ (j : Nat) (p : Pk), i = j ∧ (to.getD y [])[j]? = some p ∧ getM to y i = (p, 0) := by
  have e2 : noNode to.length (y : Int) = false := by rw [I.len]; exact no3 hy
  simp only [pullM, copyM, getM, e2, Bool.false_eq_true, if_false, Int.toNat_natCast]
  by_cases h : i < 0 ∨ ((to.getD y []).length : Int) ≤ i
  · left
    rw [if_pos h]
    refine ⟨rfl, fun k => ?_, ?_⟩
    · rw [if_neg (by simp)]
    · rw [if_neg (by simp)]
  · right
    rw [if_neg h]
    refine ⟨i.toNat, (to.getD y []).getD i.toNat zPk, by omega, ?_, rfl⟩
    rw [List.getD_eq_getElem?_getD (l := to.getD y [])]
    have : i.toNat < (to.getD y []).length := by omega
    rw [List.getElem?_eq_getElem this]
    rfl

theorem tru_pullM {K to c S T cp} (I : TInv K to c S T cp) {y j : Nat} (hy : y < 3) {p : Pk} {i : Int} (hi : i = j) (hg : getM to y i = (p, 0)) (k : Nat) :
    pullM to c y i k = (to.set y ((to.getD y []).eraseIdx j), c.set k (wrap64 (c.getD k 0 + 1))) := by
  subst hi
  simp only [pullM, hg, if_true, Int.toNat_natCast]

theorem tru_copyM {K to c S T cp} (I : TInv K to c S T cp) (hK : K ≤ 200) {y j : Nat} (hy : y < 3) {p : Pk} {i : Int} (hp : (to.getD y [])[j]? = some p) (hg : getM to y i = (p, 0)) :
    ((copyM to c y i).2.2 = 0 ∧ TInv (K + 1) (copyM to c y i).1 (copyM to c y i).2.1 S T (cp + 1)) ∨
    ((copyM to c y i).2.2 = 2 ∧ TInv (K + 1) (copyM to c y i).1 (copyM to c y i).2.1 S T cp) := by
  simp only [copyM, hg, if_true, putM, Int.toNat_natCast]
  split
  · right; exact ⟨rfl, I.more⟩
  · left; exact ⟨rfl, I.copy hK hy hp⟩

theorem tru_wayM {K to c S T cp} (I : TInv K to c S T cp) {y : Nat} (hy : y < 3) : wayM to y = (((to.getD y []).length : Int), 0) := by
  have e2 : noNode to.length (y : Int) = false := by rw [I.len]; exact no3 hy
  simp [wayM, e2]

theorem tru_tot {K to c S T cp} (I : TInv K to c S T cp) : (tot to : Int) = 0 + ((to.getD 0 []).length : Int) + ((to.getD 1 []).length : Int) + ((to.getD 2 []).length : Int) := by
  have hlen := I.len
  match to, hlen with
  | [l0, l1, l2], _ => simp [tot]; omega

end Go.Proofs.Ytgkdlpbnhjfkdaa
