/- Contracts of the closure that tells which packets Clear takes, of slices.IndexFunc and slices.Clone at packets; a net whose row is put in another's place. Conditions: those of each theorem. -/
import Derived.Test.YtgkdlpbnhjfkdaaNetJ
import Derived.Test.YtgkdlpbnhjfkdaaNetE
namespace Go.Proofs.Ytgkdlpbnhjfkdaa
open Go.RowKit

set_option maxHeartbeats 400000 in
theorem clearFn_any (fr : Int) (s : ByteArray) (bt bn : Nat) (x y : Int) (w : World) (h1 : w.cell? ⟨bt, 0, none⟩ = some (.int .i64 x)) (h2 : w.cell? ⟨bn, 0, none⟩ = some (.int .i64 y)) :
    Calls Try.prog 32 #[.agg #[.int .i64 fr, .string s], .pointer (some ⟨bt, 0, none⟩), .pointer (some ⟨bn, 0, none⟩)] w fun e w' => e = .returned (.bool (x == y || fr == y)) ∧ Keeps [] w w' := by
  have g1 := World.block_lt_of_cell? w _ h1
  have g2 := World.block_lt_of_cell? w _ h2
  simp only at g1 g2
  by_cases hxy : x = y
  · subst hxy
    go_enter Try.func32, Try.ntmps32
    go_wp2_with fail
    go_ret
    exact ⟨by simp, (Keeps.refl _ _).alloc _⟩
  · have hb : (x == y) = false := by simpa using hxy
    clear hxy
    go_enter Try.func32, Try.ntmps32
    go_wp2_with fail
    go_ret
    exact ⟨by simp [hb], (Keeps.refl _ _).alloc _⟩

def foundPk (p : Pk → Bool) : List Pk → Nat → Int
  | [], _ => -1
  | x :: xs, k => if p x then k else foundPk p xs (k + 1)

theorem foundPk_step (p : Pk → Bool) (xs : List Pk) (k : Nat) (x : Pk) (h : xs[k]? = some x) : foundPk p (xs.drop k) k = if p x then (k : Int) else foundPk p (xs.drop (k+1)) (k+1) := by
  obtain ⟨hk, he⟩ := List.getElem?_eq_some_iff.1 h
  rw [List.drop_eq_getElem_cons hk, he]; rfl

/-- What is asked of a predicate on packets that is called. -/
def PredPk (w : World) (S : List Nat) (g : Nat) (cap : Array Value) (p : Pk → Bool) : Prop :=
  ∀ (w' : World) (x : Pk), Keeps S w w' → Calls Try.prog g (#[.agg #[.int .i64 x.1, .string x.2]] ++ cap) w' fun e w'' => e = .returned (.bool (p x)) ∧ Keeps [] w' w''

set_option maxHeartbeats 400000 in
theorem indexFuncPk_any (ao : Option Addr) (n c : Nat) (l : List Pk) (w : World) (p : Pk → Bool) (g : Nat) (cap : Array Value) (hn : n ≤ 4096) (hl : l.length = n)
   (hg : ∀ (args : Array Value) (w : World), (callFunc g args).run Try.prog w = .ok (.enter g args) w)
   (hx : ∀ k x, l[k]? = some x → ∃ b o, ao = some ⟨b, o, none⟩ ∧ w.cell? ⟨b, o + k * 2, none⟩ = some (.int .i64 x.1) ∧ w.cell? ⟨b, o + k * 2 + 1, none⟩ = some (.string x.2))
   (hp : PredPk w [] g cap p) :
    Calls Try.prog 41 #[.slice ao n c, .func (.func g) #[] cap] w fun e w' => e = .returned (.int .i64 (foundPk p l 0)) ∧ Keeps [] w w' := by
  have Hp := Lib.hid hp
  have Hx := Lib.hid hx
  have Hl := Lib.hid hl
  clear hp hx hl
  go_enter Try.func41, Try.ntmps41
  go_wp2_with fail
  go_loopw [5, 8] (fun _ i wr => ∃ k : Nat, k ≤ n ∧ i = .int .i64 k ∧ Hid (foundPk p l 0 = foundPk p (l.drop k) k) ∧ Keeps [] w wr) (fun _ i _ => n - (intOf i).toNat)
  case atStart => exact ⟨0, by omega, rfl, rfl, Keeps.refl _ _⟩
  case round =>
    obtain ⟨k, hk, rfl, hf, hkp⟩ := hrel
    by_cases hlt : k < n
    · have hk' : k < l.length := by rw [Hl.out]; exact hlt
      obtain ⟨b, o, e0, hc0, hc1⟩ := Hx.out k l[k] (List.getElem?_eq_getElem hk')
      have hs := foundPk_step p l k l[k] (List.getElem?_eq_getElem hk')
      rw [← hf.out] at hs
      have Hs := Lib.hid hs
      clear hs
      generalize l[k] = x at *
      subst e0
      have d0 := hkp.cell hc0 (by simp)
      have d1 := hkp.cell hc1 (by simp)
      clear hc0 hc1
      by_cases hpx : p x = true
      · rw [if_pos hpx] at Hs
        go_wp2_with fail
        refine (Hp.out wr x hkp).mono ?_
        rw [hpx]
        rintro e w' ⟨rfl, hk2⟩
        clear d0 d1
        go_wp2_with fail
        go_ret
        exact ⟨ret_int (Hs.out.symm), hkp.then hk2⟩
      · have hpx' : p x = false := by simpa using hpx
        rw [if_neg hpx] at Hs
        go_wp2_with fail
        refine (Hp.out wr x hkp).mono ?_
        rw [hpx']
        rintro e w' ⟨rfl, hk2⟩
        clear d0 d1
        go_wp2_with fail
        go_roundw
        case rel => exact ⟨k + 1, by omega, by go_num, Hs, hkp.then hk2⟩
        case measure => simp [intOf]; omega
    · have hk' : k = n := by omega
      go_wp2_with fail
      go_ret
      refine ⟨ret_int ?_, hkp⟩
      rw [hf.out, hk', ← Hl.out, List.drop_length]
      rfl

set_option maxHeartbeats 400000 in
theorem clone_any (v : Value) (l : List Pk) (w : World) (hn : l.length ≤ 4096) (ho : w.ownsRow 0 68 2 v l.length (l.flatMap encPk)) :
    Calls Try.prog 31 #[v] w fun e w' => ∃ ao c, e = .returned (.slice ao l.length c) ∧ w'.ownsRow w.heap.size 68 2 (.slice ao l.length c) l.length (l.flatMap encPk) ∧ Keeps [] w w' := by
  have hsl := SlC.of_own ho
  obtain ⟨ao, c, rfl⟩ := own_form ho
  cases ao with
  | none =>
    have h0 : l.length = 0 := by
      rcases ho.2 with ⟨_, h⟩ | ⟨g, cap, cur, h, _⟩
      · exact h
      · cases h
    obtain rfl : l = [] := List.eq_nil_of_length_eq_zero h0
    have hq := fun (w : World) (a : Option Addr) (n c : Nat) => Lib.run_eql_slice_nil (P := Try.prog) w 73 68 a n c 0 0 Try.underlying73
    clear ho hsl h0 hn
    go_enter Try.func31, Try.ntmps31
    go_wp2_with fail
    go_ret
    exact ⟨none, 0, rfl, World.ownsRow_nil _ _ _ _, Keeps.refl _ _⟩
  | some a =>
    have hq := fun (w : World) (a : Option Addr) (n c : Nat) => Lib.run_eql_slice_nil (P := Try.prog) w 73 68 a n c 0 0 Try.underlying73
    have hk : Keeps [] w (w.alloc (.cells #[] 68 (0, 0))) := (Keeps.refl _ _).alloc _
    have hs2 := hsl.keep hk (by simp)
    have hmk := World.ownsRow_made (e := 68) (size := 2) (base := w.heap.size) w #[] 0 (Nat.le_refl _) (by simp [maxLen]) (by simp)
    clear ho hsl
    go_enter Try.func31, Try.ntmps31
    go_wp2_with (refine list_append_any rt73 (by rfl) _ _ (by rfl) w.heap.size _ 0 [] (by rfl) hmk _ l.length (l.flatMap encPk) (by rfl) hs2 (enc_one _) (by omega) (by unfold maxLen; omega) (by simp) ?_; intro ao' cp' w1 hown1 hgrow hat hnil)
    go_ret
    exact ⟨ao', cp', rfl, by simpa using hown1, hk.grown hgrow (fun k h => .inr (by simp [Value.ownBlock] at h; omega))⟩

/-- The cells behind k rounds of DeleteFunc. -/
structure DelSt (p : Pk → Bool) (l : List Pk) (cur : Array Value) (i k : Nat) : Prop where
  head : cur.toList.take (i * 2) = ((l.take k).filter fun x => !p x).flatMap encPk
  len : ((l.take k).filter fun x => !p x).length = i
  rest : ∀ j, k ≤ j → j < l.length → cur[j * 2]? = (l[j]?).map (fun x => Value.int .i64 x.1) ∧ cur[j * 2 + 1]? = (l[j]?).map (fun x => Value.string x.2)

theorem foundPk_none {p : Pk → Bool} : ∀ {l : List Pk} {k : Nat}, foundPk p l k = -1 → l.filter (fun x => !p x) = l := by
  intro l
  induction l with
  | nil => intro k _; rfl
  | cons x r ih =>
    intro k h
    simp only [foundPk] at h
    by_cases hx : p x = true
    · rw [if_pos hx] at h; omega
    · rw [if_neg hx] at h
      have := ih h
      simp [hx, this]

theorem foundPk_some {p : Pk → Bool} : ∀ {l : List Pk} {k : Nat}, foundPk p l k ≠ -1 → ∃ i, foundPk p l k = ((k + i : Nat) : Int) ∧ i < l.length ∧ (l.take i).filter (fun x => !p x) = l.take i ∧ (l.take (i + 1)).filter (fun x => !p x) = l.take i := by
  intro l
  induction l with
  | nil => intro k h; exact absurd rfl h
  | cons x r ih =>
    intro k h
    simp only [foundPk] at h ⊢
    by_cases hx : p x = true
    · rw [if_pos hx]; exact ⟨0, by simp, by simp, by simp, by simp [hx]⟩
    · rw [if_neg hx] at h ⊢
      obtain ⟨i, h1, h2, h3, h4⟩ := ih h
      refine ⟨i + 1, by rw [h1]; congr 1; omega, by simp; omega, ?_, ?_⟩
      · simp [hx, h3]
      · simp [hx, h4]

end Go.Proofs.Ytgkdlpbnhjfkdaa
