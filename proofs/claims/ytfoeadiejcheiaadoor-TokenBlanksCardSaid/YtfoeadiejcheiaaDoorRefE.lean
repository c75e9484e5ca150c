/- The reference's Join of nothing; `same` on two slices of one list. Conditions: those of each theorem. -/
import Derived.Test.YtfoeadiejcheiaaDoorRefD
import Derived.Test.YtfoeadiejcheiaaDoorTokX
import Derived.Test.YtfoeadiejcheiaaDoorTokH
namespace Go.Proofs.YtfoeadiejcheiaaDoor
open Go.RowKit

set_option maxHeartbeats 2000000 in
set_option maxRecDepth 100000 in
theorem refJoin_none (ao : Option Addr) (cap : Nat) (w : World) :
    Calls Tryd.prog 8 #[.slice ao 0 cap] w fun e w' => JoinOut (joinM []) e ∧ Keeps [] w w' := by
  have hk0 := Keeps.refl [] w
  have HM : Hid (joinM [] = .ok []) := Lib.hid rfl
  go_enter Tryd.func8, Tryd.ntmps8
  go_wp2_with fail
  go_loopw [5, 6] (fun b i wr => b = .slice none 0 0 ∧ i = .int .i64 0 ∧ wr = w) (fun _ _ _ => 0)
  case atStart => exact ⟨rfl, rfl, rfl⟩
  case round =>
    obtain ⟨rfl, rfl, rfl⟩ := hrel
    have hcv := conv_own (w := wr) (base := wr.heap.size) (n := 0) (B := ⟨#[]⟩) (ao := none) (cp := 0) ⟨rfl, .inl ⟨rfl, rfl⟩⟩
    go_wp2_with fail
    go_returns
    exact ⟨.good HM.out rfl, hk0⟩

set_option maxHeartbeats 4000000 in
set_option maxRecDepth 100000 in
theorem same_any (l : List TokR) (bk o cap bk' o' cap' : Nat) (w : World) (hsl : TokSl w bk o l) (hsl' : TokSl w bk' o' l) (hl : l.length ≤ cap) (hcap : cap ≤ 9223372036854775807) :
    Calls Tryd.prog 9 #[.slice (some ⟨bk, o, none⟩) l.length cap, .slice (some ⟨bk', o', none⟩) l.length cap'] w fun e w' => e = .returned (.bool true) ∧ Keeps [] w w' := by
  have hk0 := Keeps.refl [] w
  obtain ⟨n, hn⟩ : ∃ n, l.length = n := ⟨_, rfl⟩
  have HS := Lib.hid hsl
  have HS' := Lib.hid hsl'
  clear hsl hsl'
  rw [hn]
  rw [hn] at hl
  have HN := Lib.hid hn
  clear hn
  go_enter Tryd.func9, Tryd.ntmps9
  go_wp2_with fail
  go_loopw [5] (fun i wr => ∃ k : Nat, k ≤ n ∧ i = .int .i64 k ∧ Keeps [] w wr) (fun i _ => n - (intOf i).toNat)
  case atStart => exact ⟨0, Nat.zero_le _, rfl, hk0⟩
  case round =>
    obtain ⟨k, hkn, rfl, hk⟩ := hrel
    by_cases hlt : k < n
    · have d1 : decide ((k : Int) < (n : Int)) = true := by simp; omega
      obtain ⟨y, hy⟩ : ∃ y, l[k]? = some y := ⟨l[k]'(by rw [HN.out]; omega), List.getElem?_eq_getElem _⟩
      obtain ⟨c0, c1, c2, c3⟩ := (HS.out.keep hk) k y hy
      obtain ⟨e0, e1, e2, e3⟩ := (HS'.out.keep hk) k y hy
      have E := run_eqIn_tok wr
      have G := tok_guard
      clear hy
      go_wp2_with fail
      repeat (go_quiet (fail); try go_wp2_with fail)
      exact ⟨⟨k + 1, by omega, by simp, hk.drewN _⟩, by simp only [intOf]; omega⟩
    · have hke : k = n := by omega
      have d1 : decide ((k : Int) < (n : Int)) = false := by simp; omega
      go_wp2_with fail
      go_returns
      exact ⟨rfl, hk⟩

theorem run_eqIn_fault (w : World) (a n a' n' : Int) :
    (Op.equalIn 10000 30 (.agg #[.int .i64 a, .int .i64 n]) (.agg #[.int .i64 a', .int .i64 n'])).run Tryd.prog w = .ok ((a == a') && (n == n')) w := by
  rw [run_equalIn_struct w 9999 30 _ _ (by kernel_rfl) (by kernel_rfl)]
  simp only [Program.fieldsOf, Tryd.underlying30]
  simp [Op.eqFields, go_sem]
  by_cases h1 : a = a' <;> by_cases h2 : n = n' <;> simp [h1, h2]

theorem fault_guard : Tryd.prog.eqGuardType Tryd.prog.depth 30 = false := by kernel_rfl

end Go.Proofs.YtfoeadiejcheiaaDoor
