/- Contracts of the question whether numbers are nodes. Conditions: those of each theorem. -/
import Derived.Test.YtgkdlpbnhjfkdaaNetA
namespace Go.Proofs.Ytgkdlpbnhjfkdaa
open Go.RowKit

abbrev Pk := Int × ByteArray
def encPk (p : Pk) : List Value := [.int .i64 p.1, .string p.2]

theorem rt73 : RowTy Try.prog 73 68 2 24 := ⟨Try.underlying73, by kernel_rfl, by omega⟩

def allNodes (n : Nat) (xs : List Int) : Bool := !decide (foundAt (noNode n) xs 0 ≥ 0)

set_option maxHeartbeats 400000 in
theorem containsFuncInt_any (b off n c : Nat) (xs : List Int) (w : World) (p : Int → Bool) (g : Nat) (cap : Array Value) (hn : n ≤ 1000)
   (hg : ∀ (args : Array Value) (w : World), (callFunc g args).run Try.prog w = .ok (.enter g args) w) (hl : xs.length = n) (hx : ∀ k u, xs[k]? = some u → w.cell? ⟨b, off + k, none⟩ = some (.int .i64 u))
   (hp : ∀ x, Calls Try.prog g (#[.int .i64 x] ++ cap) w fun e w' => e = .returned (.bool (p x)) ∧ w = w') :
    Calls Try.prog 34 #[.slice (some ⟨b, off, none⟩) n c, .func (.func g) #[] cap] w fun e w' => e = .returned (.bool (decide (foundAt p xs 0 ≥ 0))) ∧ w = w' := by
  have Hc := Lib.hid (indexFuncInt_any b off n c xs w p g cap hn hg hl hx hp)
  clear hg hl hx hp
  go_enter Try.func34, Try.ntmps34
  go_wp2_with fail
  refine Hc.out.mono ?_
  rintro e w' ⟨rfl, rfl⟩
  go_wp2_with fail
  go_ret
  simp

set_option maxHeartbeats 400000 in
theorem nodes_any (a N c b off n cp : Nat) (ao : Option Addr) (xs : List Int) (w : World) (hn : n ≤ 1000) (h2 : w.cell? ⟨a, 0, none⟩ = some (.slice ao N c))
   (hl : xs.length = n) (hx : ∀ k u, xs[k]? = some u → w.cell? ⟨b, off + k, none⟩ = some (.int .i64 u)) :
    Calls Try.prog 19 #[.pointer (some ⟨a, 0, none⟩), .slice (some ⟨b, off, none⟩) n cp] w fun e w' => e = .returned (.bool (allNodes N xs)) ∧ Keeps [] w w' := by
  have hk : Keeps [] w (w.alloc (.cells #[.pointer (some ⟨a, 0, none⟩)] 24 (0, 0))) := (Keeps.refl _ _).alloc _
  have Hc := Lib.hid (containsFuncInt_any b off n cp xs (w.alloc (.cells #[.pointer (some ⟨a, 0, none⟩)] 24 (0, 0))) (noNode N) 35 #[.pointer (some ⟨w.heap.size, 0, none⟩)] hn
    (fun _ _ => by simp [go_sem]) hl (fun k u h => hk.cell (hx k u h) (by simp))
    (fun x => by
      refine nodesFn_any x w.heap.size a N c ao _ (by simp) (hk.cell h2 (by simp))))
  clear hl hx
  go_enter Try.func19, Try.ntmps19
  go_wp2_with fail
  refine Hc.out.mono ?_
  rintro e w' ⟨rfl, rfl⟩
  go_wp2_with fail
  go_ret
  exact ⟨rfl, hk⟩

end Go.Proofs.Ytgkdlpbnhjfkdaa
