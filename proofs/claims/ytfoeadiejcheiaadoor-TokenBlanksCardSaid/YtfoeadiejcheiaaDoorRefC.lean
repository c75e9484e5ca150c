/- Bytes that are owned, as a text; what the reference's Join goes through. Conditions: those of each theorem. -/
import Derived.Test.YtfoeadiejcheiaaDoorTokZ
import Derived.Lib.AppendStr
namespace Go.Proofs.YtfoeadiejcheiaaDoor
open Go.RowKit

theorem u8_info : ∃ i, Tryd.prog.info? 5 = some i ∧ i.zero = some (.int .u8 0) ∧ i.size = 1 ∧ i.bytes = 1 := by
  have h : (Tryd.prog.info? 5).map (fun i => (i.zero, i.size, i.bytes)) = some (some (.int .u8 0), 1, 1) := by kernel_rfl
  cases hi : Tryd.prog.info? 5 with
  | none => rw [hi] at h; cases h
  | some i =>
    rw [hi] at h
    simp only [Option.map_some, Option.some.injEq, Prod.mk.injEq] at h
    exact ⟨i, rfl, h.1, h.2.1, h.2.2⟩

theorem push_all (l : List UInt8) : ∀ B : ByteArray, (l.map fun b => (b.toNat : Int)).foldl (fun r n => r.push (UInt8.ofNat n.toNat)) B = ⟨(B.data.toList ++ l).toArray⟩ := by
  induction l with
  | nil => intro B; simp
  | cons c l ih =>
    intro B
    rw [List.map_cons, List.foldl_cons, ih]
    apply ByteArray.ext
    simp

theorem conv_own {w : World} {base n : Nat} {ao : Option Addr} {cp : Nat} {B : ByteArray} (h : w.ownsRow base 5 1 (.slice ao n cp) n (Lib.strCells B)) :
    (convert 43 9 (.slice ao n cp)).run Tryd.prog w = .ok (.string B) w := by
  rw [run_convert_bytes_string w 43 9 5 _ _ _ Tryd.underlying43 Tryd.underlying5 Tryd.underlying9]
  have hl := h.1
  rw [Lib.strCells_length, Nat.mul_one] at hl
  have hB : ∀ r : ByteArray, r = ⟨(ByteArray.empty.data.toList ++ B.data.toList).toArray⟩ → r = B := by
    rintro r rfl
    apply ByteArray.ext
    show (([] : List UInt8) ++ B.data.toList).toArray = B.data
    simp
  rcases h.2 with ⟨he, h0⟩ | ⟨g, cap, cur, he, hb, hg, hnc, hm, hs, ht⟩
  · cases he
    have h1 : B = ⟨#[]⟩ := by
      apply ByteArray.ext
      exact Array.eq_empty_of_size_eq_zero (by show B.size = 0; omega)
    rw [h1]
    simp [Conv.bytesToString]
    rfl
  · cases he
    have hr := run_bytesToString (P := Tryd.prog) w ⟨g, 0, none⟩ n cp (B.data.toList.map fun b => (b.toNat : Int)) (by
      have := run_loadCells_list (P := Tryd.prog) (w := w) ⟨g, 0, none⟩ (Lib.strCells B) (fun j v hj => h.cells rfl j v hj)
      rw [Lib.strCells_length, hl] at this
      rw [this, List.map_map]
      rfl)
    rw [hr, push_all]
    exact congrArg (fun b => Result.ok (Value.string b) w) (hB _ rfl)

theorem joinW_snoc (ws : List (List UInt8)) (a : List UInt8) : joinW (ws ++ [a]) = if ws = [] then a else joinW ws ++ 32 :: a := by
  induction ws with
  | nil => rfl
  | cons b r ih =>
    cases r with
    | nil => simp [joinW]
    | cons c r =>
      simp only [List.cons_append, joinW] at *
      rw [ih]
      simp

theorem strCells_app (a b : ByteArray) : Lib.strCells (a ++ b) = Lib.strCells a ++ Lib.strCells b := by
  simp [Lib.strCells]

end Go.Proofs.YtfoeadiejcheiaaDoor
