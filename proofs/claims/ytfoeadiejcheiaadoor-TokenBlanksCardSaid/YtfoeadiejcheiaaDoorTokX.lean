/- Two tokens, held against each other. -/
import Derived.Test.YtfoeadiejcheiaaDoorTokV
import Derived.Laws.StructEq
namespace Go.Proofs.YtfoeadiejcheiaaDoor
open Go.RowKit

theorem run_eqIn_tok (w : World) (a n d a' n' d' : Int) (b b' : ByteArray) :
    (Op.equalIn 10000 34 (.agg #[.int .i64 a, .string b, .int .i64 n, .int .i64 d]) (.agg #[.int .i64 a', .string b', .int .i64 n', .int .i64 d'])).run Tryd.prog w = .ok ((a == a') && ((b.toList == b'.toList) && ((n == n') && (d == d')))) w := by
  rw [run_equalIn_struct w 9999 34 _ _ (by kernel_rfl) (by kernel_rfl)]
  simp only [Program.fieldsOf, Tryd.underlying34]
  simp [Op.eqFields, go_sem]
  by_cases h1 : a = a' <;> by_cases h2 : b.toList = b'.toList <;> by_cases h3 : n = n' <;> by_cases h4 : d = d' <;> simp [h1, h2, h3, h4]

theorem tok_guard : Tryd.prog.eqGuardType Tryd.prog.depth 34 = false := by kernel_rfl

end Go.Proofs.YtfoeadiejcheiaaDoor
