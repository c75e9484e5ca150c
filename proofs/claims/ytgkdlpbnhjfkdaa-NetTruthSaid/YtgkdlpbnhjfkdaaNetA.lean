/- Contracts of the counters and of the search through a list of numbers. Conditions: those of each theorem. -/
import Derived.Test.YtgkdlpbnhjfkdaaRows
import Derived.Test.YtgkdlpbnhjfkdaaBase
namespace Go.Proofs.Ytgkdlpbnhjfkdaa
open Go.RowKit

theorem ret_int {k : IntKind} {a b : Int} (h : a = b) : Ending.returned (.int k a) = .returned (.int k b) := by rw [h]
theorem ret_bool {a b : Bool} (h : a = b) : Ending.returned (.bool a) = .returned (.bool b) := by rw [h]

set_option maxHeartbeats 400000 in
theorem add_any (a o : Nat) (c d : Int) (w : World) (hc : w.cell? ⟨a, o, none⟩ = some (.int .i64 c)) (hz : w.frozen? ⟨a, o, none⟩ = false) :
    Calls Try.prog 33 #[.pointer (some ⟨a, o, none⟩), .int .i64 d] w fun e w' => e = .returned (.int .i64 (wrap64 (c+d))) ∧ w' = w.setCell ⟨a, o, none⟩ (.int .i64 (wrap64 (c+d))) := by
  have hadd := run_call_add (P := Try.prog) Try.func42 (by kernel_rfl) (by kernel_rfl) (by kernel_rfl) .i64 (by kernel_rfl) (y := d) (s := wrap64 (c + d)) hc hz (by simp [go_sem, wrap64, IntKind.wrap_i64])
  go_enter Try.func33, Try.ntmps33
  go_wp2
  go_ret
  exact ⟨rfl, rfl⟩

set_option maxHeartbeats 400000 in
theorem load_any (a o : Nat) (c : Int) (w : World) (hc : w.cell? ⟨a, o, none⟩ = some (.int .i64 c)) :
    Calls Try.prog 28 #[.pointer (some ⟨a, o, none⟩)] w fun e w' => e = .returned (.int .i64 c) ∧ w = w' := by
  have hld := run_call_load (P := Try.prog) Try.func40 (by kernel_rfl) (by kernel_rfl) (by kernel_rfl) .i64 (by kernel_rfl) hc
  go_enter Try.func28, Try.ntmps28
  go_wp2
  go_ret
  exact ⟨rfl, rfl⟩

/-- Is a number no node? -/
def noNode (n : Nat) (x : Int) : Bool := decide (x < 0) || decide ((n:Int) ≤ x)

set_option maxHeartbeats 400000 in
theorem nodesFn_any (x : Int) (bx a n c : Nat) (ao : Option Addr) (w : World) (h1 : w.cell? ⟨bx, 0, none⟩ = some (.pointer (some ⟨a, 0, none⟩)))
   (h2 : w.cell? ⟨a, 0, none⟩ = some (.slice ao n c)) :
    Calls Try.prog 35 #[.int .i64 x, .pointer (some ⟨bx, 0, none⟩)] w fun e w' => e = .returned (.bool (noNode n x)) ∧ w = w' := by
  go_enter Try.func35, Try.ntmps35
  go_wp2
  · go_ret
    simp [noNode, *]
  · go_ret
    simp [noNode, *]

def foundAt (p : Int → Bool) : List Int → Nat → Int
  | [], _ => -1
  | x :: xs, k => if p x then k else foundAt p xs (k + 1)

theorem foundAt_step (p : Int → Bool) (xs : List Int) (k : Nat) (x : Int) (h : xs[k]? = some x) : foundAt p (xs.drop k) k = if p x then (k : Int) else foundAt p (xs.drop (k+1)) (k+1) := by
  obtain ⟨hk, he⟩ := List.getElem?_eq_some_iff.1 h
  rw [List.drop_eq_getElem_cons hk, he]; rfl

set_option maxHeartbeats 400000 in
theorem indexFuncInt_any (b off n c : Nat) (xs : List Int) (w : World) (p : Int → Bool) (g : Nat) (cap : Array Value) (hn : n ≤ 1000)
   (hg : ∀ (args : Array Value) (w : World), (callFunc g args).run Try.prog w = .ok (.enter g args) w) (hl : xs.length = n) (hx : ∀ k u, xs[k]? = some u → w.cell? ⟨b, off + k, none⟩ = some (.int .i64 u))
   (hp : ∀ x, Calls Try.prog g (#[.int .i64 x] ++ cap) w fun e w' => e = .returned (.bool (p x)) ∧ w = w') :
    Calls Try.prog 43 #[.slice (some ⟨b, off, none⟩) n c, .func (.func g) #[] cap] w fun e w' => e = .returned (.int .i64 (foundAt p xs 0)) ∧ w = w' := by
  have Hp := Lib.hid hp
  have Hx := Lib.hid hx
  have Hl := Lib.hid hl
  clear hp hx hl
  go_enter Try.func43, Try.ntmps43
  go_wp2
  go_loop [5, 8] (fun _ i => ∃ k : Nat, k ≤ n ∧ i = .int .i64 k ∧ Hid (foundAt p xs 0 = foundAt p (xs.drop k) k)) (fun _ i => n - (intOf i).toNat)
  case atStart => exact ⟨0, by omega, rfl, rfl⟩
  case round =>
    obtain ⟨k, hk, rfl, hf⟩ := hrel
    by_cases hlt : k < n
    · have hk' : k < xs.length := by rw [Hl.out]; exact hlt
      have hc := Hx.out k xs[k] (List.getElem?_eq_getElem hk')
      have hs := foundAt_step p xs k xs[k] (List.getElem?_eq_getElem hk')
      rw [← hf.out] at hs
      have Hs := Lib.hid hs
      clear hs
      generalize xs[k] = x at *
      by_cases hpx : p x = true
      · rw [if_pos hpx] at Hs
        go_wp2_with fail
        refine (Hp.out x).mono ?_
        rintro e w' ⟨rfl, rfl⟩
        go_wp2_with fail
        go_ret
        exact ⟨ret_int (Hs.out.symm), rfl⟩
      · have hpx' : p x = false := by simpa using hpx
        rw [if_neg hpx] at Hs
        go_wp2_with fail
        refine (Hp.out x).mono ?_
        rintro e w' ⟨rfl, rfl⟩
        go_wp2_with fail
        go_round
        case rel => exact ⟨k + 1, by omega, by go_num, Hs⟩
        case measure => simp [intOf]; omega
    · have hk' : k = n := by omega
      go_wp2
      go_ret
      refine ⟨ret_int ?_, rfl⟩
      rw [hf.out, hk', ← Hl.out, List.drop_length]
      rfl

end Go.Proofs.Ytgkdlpbnhjfkdaa
