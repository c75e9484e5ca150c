/- Contracts of strings.IndexByte and of run. Conditions: those of each theorem. -/
import Derived.Test.YtfoeadiejcheiaaDoorTokA
import Derived.Lib.Bytealg
namespace Go.Proofs.YtfoeadiejcheiaaDoor
open Go.RowKit

theorem liteIndexByte_any (s : ByteArray) (c : Int) (w : World) : Calls Tryd.prog 36 #[.string s, .int .u8 c] w fun e w' => e = .returned (.int .i64 (Lib.indexByte s.data.toList c.toNat.toUInt8)) ∧ w = w' := by
  go_enter Tryd.func36, Tryd.ntmps36
  go_wp2
  rw [run_callFunc_extern Tryd.func49 (by kernel_rfl) (by kernel_rfl) (by kernel_rfl) (e := Extern.BytealgIndexByte.indexByte) (by kernel_rfl), Lib.run_indexByteString]
  simp only [Result.andThen]
  rw [Oper.upon_value]
  go_wp2
  go_ret
  exact ⟨rfl, rfl⟩

theorem indexByte_any (s : ByteArray) (c : Int) (w : World) : Calls Tryd.prog 23 #[.string s, .int .u8 c] w fun e w' => e = .returned (.int .i64 (Lib.indexByte s.data.toList c.toNat.toUInt8)) ∧ w = w' := by
  have H := fun w => Lib.hid (liteIndexByte_any s c w)
  go_enter Tryd.func23, Tryd.ntmps23
  go_wp2_with fail
  refine (H _).out.mono ?_
  rintro e w' ⟨rfl, rfl⟩
  go_wp2_with fail
  go_ret
  exact ⟨rfl, rfl⟩

end Go.Proofs.YtfoeadiejcheiaaDoor
