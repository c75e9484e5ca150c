/- The chapter example holds. Conditions: those of each theorem. -/
import Derived.Test.YtgkdlpbnhjfkdaaNetH
namespace Go.Proofs.Ytgkdlpbnhjfkdaa
open Go.RowKit

abbrev sA : ByteArray := ⟨#[97]⟩
abbrev sB : ByteArray := ⟨#[98]⟩

theorem kw1 : sendM [[], []] [0, 0, 0, 0] 0 1 ⟨#[97]⟩ = ([[], [(0, sA)]], [1, 0, 0, 0], 0) := by kernel_rfl
theorem kw2 : sendM [[], [(0, sA)]] [1, 0, 0, 0] 0 1 ⟨#[98]⟩ = ([[], [(0, sA), (0, sB)]], [2, 0, 0, 0], 0) := by kernel_rfl
theorem kw3 : copyM [[], [(0, sA), (0, sB)]] [2, 0, 0, 0] 1 0 = ([[], [(0, sA), (0, sB), (0, sA)]], [2, 0, 1, 0], 0) := by kernel_rfl
theorem kw4 : pullM [[], [(0, sA), (0, sB), (0, sA)]] [2, 0, 1, 0] 1 0 1 = ([[], [(0, sB), (0, sA)]], [2, 1, 1, 0]) := by kernel_rfl
theorem kw4' : getM [[], [(0, sA), (0, sB), (0, sA)]] 1 0 = ((0, sA), 0) := by kernel_rfl
theorem kw5 : pullM [[], [(0, sB), (0, sA)]] [2, 1, 1, 0] 1 1 3 = ([[], [(0, sB)]], [2, 1, 1, 1]) := by kernel_rfl
theorem kw5' : getM [[], [(0, sB), (0, sA)]] 1 1 = ((0, sA), 0) := by kernel_rfl
theorem kw6 : wayM [[], [(0, sB)]] 1 = (1, 0) := by kernel_rfl

set_option maxHeartbeats 1000000 in
theorem works_any (w : World) : Calls Try.prog 8 #[] w fun e w' => e = .returned (.bool true) ∧ Keeps [] w w' := by
  have H0 := Lib.hid (new_yes 2 w (by omega) (by omega))
  go_enter Try.func8, Try.ntmps8
  go_wp2_with fail
  refine H0.out.mono ?_
  rintro e w1' ⟨rfl, hr, hk⟩
  clear H0
  go_wp2_with fail
  have hs := Lib.hid (kw1 ▸ send_any (a := w.heap.size + 1) (t := w.heap.size) 0 1 ⟨#[97]⟩ w1' hr)
  refine hs.out.mono ?_
  rintro e w2' ⟨rfl, v2, hr2, st2⟩
  clear hs hr
  go_wp2_with fail
  have hs := Lib.hid (kw2 ▸ send_any (a := w.heap.size + 1) (t := w.heap.size) 0 1 ⟨#[98]⟩ w2' hr2)
  refine hs.out.mono ?_
  rintro e w3' ⟨rfl, v3, hr3, st3⟩
  clear hs hr2
  go_wp2_with fail
  have hs := Lib.hid (kw3 ▸ copy_any (a := w.heap.size + 1) (t := w.heap.size) 1 0 w3' hr3)
  refine hs.out.mono ?_
  rintro e w4 ⟨rfl, v4, hr4, st4⟩
  clear hs hr3
  go_wp2_with fail
  have hs := Lib.hid (kw4' ▸ kw4 ▸ lose_any (a := w.heap.size + 1) (t := w.heap.size) 1 0 w4 hr4)
  refine hs.out.mono ?_
  rintro e w5 ⟨rfl, v5, hr5, st5⟩
  clear hs hr4
  go_wp2_with fail
  have hs := Lib.hid (kw5' ▸ kw5 ▸ take_any (a := w.heap.size + 1) (t := w.heap.size) 1 1 w5 hr5)
  refine hs.out.mono ?_
  rintro e w6 ⟨rfl, v6, hr6, st6⟩
  clear hs hr5
  go_wp2_with fail
  have hs := Lib.hid (kw6 ▸ way_any (a := w.heap.size + 1) (t := w.heap.size) 1 w6 hr6)
  refine hs.out.mono ?_
  rintro e w7 ⟨rfl, hk7⟩
  clear hs
  have hr7 := hr6.keep hk7 (by simp)
  clear hr6
  go_wp2_with fail
  have hs := Lib.hid (counts_any w7 hr7)
  refine hs.out.mono ?_
  rintro e w8 ⟨rfl, hk8⟩
  clear hs hr7
  have he : ∀ w, (binOp .eql 41 (.agg #[.int .i64 2, .int .i64 1, .int .i64 1, .int .i64 1]) (.agg #[.int .i64 2, .int .i64 1, .int .i64 1, .int .i64 1])).run Try.prog w = .ok (.bool true) w := fun _ => by kernel_rfl
  go_wp2_with fail
  go_ret
  refine ⟨rfl, ?_⟩
  have hb := ((((st2.trans st3).trans st4).trans st5).trans st6)
  have h9 := (NetStep.trans hb (NetStep.same hk7)).trans (NetStep.same hk8)
  refine hk.trans h9.keeps fun x hx hlt => ?_
  exfalso
  have : (List.replicate 2 (Value.slice none 0 0)).filterMap Value.ownBlock = [] := rfl
  simp only [blocksOf, this, List.mem_cons, List.not_mem_nil, or_false] at hx
  omega

end Go.Proofs.Ytgkdlpbnhjfkdaa
