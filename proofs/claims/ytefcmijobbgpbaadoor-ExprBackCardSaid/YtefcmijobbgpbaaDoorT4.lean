/- T4: contracts and plain laws of tokens, carried over from another seat. Conditions: those of each theorem. -/
import Derived.Test.YtefcmijobbgpbaaDoorT3
import Derived.Lib.AppendStr
import Derived.Test.YtefcmijobbgpbaaDoorT1

set_option maxRecDepth 100000

namespace Go.Proofs.YtefcmijobbgpbaaDoor
open Go.RowKit

set_option maxHeartbeats 2000000 in
set_option maxRecDepth 100000 in
theorem join_none (ao : Option Addr) (cap : Nat) (w : World) :
    Calls Tryd.prog 9 #[.slice ao 0 cap] w fun e w' => JoinOut (joinM []) e ∧ Keeps [] w w' := by
  have hk0 := Keeps.refl [] w
  have HJ := fun w => Lib.hid (joinLib_any w w.heap.size none 0 0 [] ⟨rfl, .inl ⟨rfl, rfl⟩⟩ (by omega) (by simp [joinW]))
  have HM : Hid (joinM [] = .ok []) := Lib.hid rfl
  go_enter Tryd.func9, Tryd.ntmps9
  go_wp2_with fail
  go_loopw [5, 6, 50] (fun a b i wr => a = .slice none 0 0 ∧ b = .int .i64 0 ∧ i = .int .i64 0 ∧ wr = w) (fun _ _ _ _ => 0)
  case atStart => exact ⟨rfl, rfl, rfl, rfl⟩
  case round =>
    obtain ⟨rfl, rfl, rfl, rfl⟩ := hrel
    go_wp2_with (go_at_call 16; refine (HJ _).out.mono ?_; rintro e w2 ⟨rfl, hk2⟩)
    go_returns
    exact ⟨.good HM.out rfl, hk2⟩

theorem dec_len (n : Nat) (hn : n ≤ 9223372036854775807) : (Lib.decDigits n).length ≤ 21 := by
  have h := Lib.itoa_length_le (n : Int) (by omega) (by omega)
  unfold Lib.itoa at h
  rwa [if_neg (by omega), Int.toNat_natCast] at h

theorem conv_list (_S : List Nat) (ns : List Int) (w : World) (B n c : Nat) (hn : n = ns.length) (hB : w.heap[B]? = some (.cells (ns.map (Value.int .u8)).toArray 5 (0, 0))) :
    (convert 77 9 (.slice (some ⟨B, 0, none⟩) n c)).run Tryd.prog w = .ok (.string (ns.foldl (fun r n => r.push (UInt8.ofNat n.toNat)) ByteArray.empty)) w := by
  rw [run_convert_bytes_string w 77 9 5 _ _ _ Tryd.underlying77 Tryd.underlying5 Tryd.underlying9]
  subst hn
  refine run_bytesToString w _ _ _ _ ?_
  have h := run_loadCells_list (P := Tryd.prog) (w := w) ⟨B, 0, none⟩ (ns.map (Value.int .u8)) ?_
  · rw [List.length_map] at h
    exact h
  · intro j v hj
    rw [addr_add, cell_of_row _ B _ _ _ _ hB]
    rw [List.getElem?_toArray, Nat.zero_add]
    exact hj

end Go.Proofs.YtefcmijobbgpbaaDoor

namespace Go.Proofs.YtefcmijobbgpbaaDoor
open Go.RowKit

theorem WrittenOut.of_no {K N : Int} {S r : ByteArray} {e : Ending} (h : writtenM K S.data.toList N = none) (he : e = .returned (.tuple #[.string r, .bool false])) : WrittenOut K S N e :=
  ⟨r, false, he, by rw [h]⟩

theorem lexOne_258 {l : List UInt8} {t : Tok} {k : Nat} (h : lexOne l = some (t, k)) : k ≤ 258 := by
  cases l with
  | nil => simp [lexOne] at h
  | cons c r =>
    by_cases h39 : c = 39
    · subst h39
      rw [lexOne, if_neg (by decide), if_neg (by decide), if_pos rfl] at h
      split at h
      · cases h; omega
      · cases h
    · simp only [lexOne, h39, if_false] at h
      split at h
      · split at h
        · cases h; omega
        · cases h
      · split at h
        · rename_i hd
          split at h
          · rename_i hq
            cases h
            have hlen : ((c :: r).take (spanN isDigit (c :: r))).length = spanN isDigit (c :: r) := by
              rw [List.length_take]
              have := spanN_le isDigit (c :: r)
              omega
            have hpos := span_pos (r := r) hd
            have hdec := dec_of_num (spanN isDigit r) ((c :: r).take (spanN isDigit (c :: r))) (by rw [hlen, hpos]) (span_all _) (by
              rcases hq.2 with h1 | h1
              · left
                rw [hpos, List.take_succ_cons]
                simpa using h1
              · exact .inr (hlen.trans h1))
            have hi := dec_len (numVal ((c :: r).take (spanN isDigit (c :: r)))) hq.1
            rw [hdec, hlen] at hi
            omega
          · cases h
        · split at h
          · split at h
            · cases h; omega
            · split at h
              · cases h
              · cases h; omega
          · cases h

/-- What is no number has none; what is one has no text. -/
theorem lexOne_parts {l : List UInt8} {t : Tok} {k : Nat} (h : lexOne l = some (t, k)) : (t.kind ≠ 2 → t.n = 0) ∧ (t.kind = 2 → t.s = []) := by
  cases l with
  | nil => simp [lexOne] at h
  | cons c r =>
    simp only [lexOne] at h
    split at h
    · split at h
      · cases h; exact ⟨fun _ => rfl, fun h => by cases h⟩
      · cases h
    · split at h
      · split at h
        · cases h; exact ⟨fun h => absurd rfl h, fun _ => rfl⟩
        · cases h
      · split at h
        · split at h
          · cases h; exact ⟨fun _ => rfl, fun h => by cases h⟩
          · cases h
        · split at h
          · split at h
            · cases h; exact ⟨fun _ => rfl, fun h => by cases h⟩
            · split at h
              · cases h
              · cases h; exact ⟨fun _ => rfl, fun h => by cases h⟩
          · cases h

theorem written_cand {K N : Int} {s x : List UInt8} (h : writtenM K s N = some x) : x = cand K s N := by
  unfold writtenM at h
  unfold cand
  generalize (if K = 2 then Lib.itoa N else if K = 3 then 39 :: (s ++ [39]) else s) = y at *
  simp only at h
  split at h
  · split at h
    · cases h; rfl
    · cases h
  · cases h

theorem no_long {K N : Int} {s : List UInt8} (h : 258 < (cand K s N).length) : writtenM K s N = none := by
  cases hw : writtenM K s N with
  | none => rfl
  | some x =>
    obtain ⟨t, hl, _⟩ := written_some hw
    have := lexOne_258 hl
    rw [written_cand hw] at this
    omega
theorem no_num {K N : Int} {s : List UInt8} (hK : K ≠ 2) (hN : N ≠ 0) : writtenM K s N = none := by
  cases hw : writtenM K s N with
  | none => rfl
  | some x =>
    obtain ⟨t, hl, hk, _, hn⟩ := written_some hw
    have := (lexOne_parts hl).1 (by omega)
    omega
theorem no_text {N : Int} {s : List UInt8} (hs : s ≠ []) : writtenM 2 s N = none := by
  cases hw : writtenM 2 s N with
  | none => rfl
  | some x =>
    obtain ⟨t, hl, hk, h2, hn⟩ := written_some hw
    exact absurd (h2.symm.trans ((lexOne_parts hl).2 (by omega))) hs
theorem no_neg {N : Int} {s : List UInt8} (hN : N < 0) : writtenM 2 s N = none := by
  cases hw : writtenM 2 s N with
  | none => rfl
  | some x =>
    obtain ⟨t, hl, hk, h2, hn⟩ := written_some hw
    omega
theorem no_empty {K N : Int} {s : List UInt8} (h : (cand K s N).length = 0) : writtenM K s N = none := by
  cases hw : writtenM K s N with
  | none => rfl
  | some x =>
    obtain ⟨t, hl, _⟩ := written_some hw
    have := lexOne_len hl
    rw [written_cand hw] at this
    omega

end Go.Proofs.YtefcmijobbgpbaaDoor

namespace Go.Proofs.YtefcmijobbgpbaaDoor
open Go.RowKit

theorem u8_info : ∃ i, Tryd.prog.info? 5 = some i ∧ i.zero = some (.int .u8 0) ∧ i.size = 1 ∧ i.bytes = 1 := by
  have h : (Tryd.prog.info? 5).map (fun i => (i.zero, i.size, i.bytes)) = some (some (.int .u8 0), 1, 1) := by kernel_rfl
  cases hi : Tryd.prog.info? 5 with
  | none => rw [hi] at h; cases h
  | some i =>
    rw [hi] at h
    simp only [Option.map_some, Option.some.injEq, Prod.mk.injEq] at h
    exact ⟨i, rfl, h.1, h.2.1, h.2.2⟩

theorem push_all (l : List UInt8) : ∀ B : ByteArray, (l.map fun b => (b.toNat : Int)).foldl (fun r n => r.push (UInt8.ofNat n.toNat)) B = ⟨(B.data.toList ++ l).toArray⟩ := by
  induction l with
  | nil => intro B; simp
  | cons c l ih =>
    intro B
    rw [List.map_cons, List.foldl_cons, ih]
    apply ByteArray.ext
    simp

theorem conv_own {w : World} {base n : Nat} {ao : Option Addr} {cp : Nat} {B : ByteArray} (h : w.ownsRow base 5 1 (.slice ao n cp) n (Lib.strCells B)) :
    (convert 77 9 (.slice ao n cp)).run Tryd.prog w = .ok (.string B) w := by
  rw [run_convert_bytes_string w 77 9 5 _ _ _ Tryd.underlying77 Tryd.underlying5 Tryd.underlying9]
  have hl := h.1
  rw [Lib.strCells_length, Nat.mul_one] at hl
  have hB : ∀ r : ByteArray, r = ⟨(ByteArray.empty.data.toList ++ B.data.toList).toArray⟩ → r = B := by
    rintro r rfl
    apply ByteArray.ext
    show (([] : List UInt8) ++ B.data.toList).toArray = B.data
    simp
  rcases h.2 with ⟨he, h0⟩ | ⟨g, cap, cur, he, hb, hg, hnc, hm, hs, ht⟩
  · cases he
    have h1 : B = ⟨#[]⟩ := by
      apply ByteArray.ext
      exact Array.eq_empty_of_size_eq_zero (by show B.size = 0; omega)
    rw [h1]
    simp [Conv.bytesToString]
    rfl
  · cases he
    have hr := run_bytesToString (P := Tryd.prog) w ⟨g, 0, none⟩ n cp (B.data.toList.map fun b => (b.toNat : Int)) (by
      have := run_loadCells_list (P := Tryd.prog) (w := w) ⟨g, 0, none⟩ (Lib.strCells B) (fun j v hj => h.cells rfl j v hj)
      rw [Lib.strCells_length, hl] at this
      rw [this, List.map_map]
      rfl)
    rw [hr, push_all]
    exact congrArg (fun b => Result.ok (Value.string b) w) (hB _ rfl)

theorem joinW_snoc (ws : List (List UInt8)) (a : List UInt8) : joinW (ws ++ [a]) = if ws = [] then a else joinW ws ++ 32 :: a := by
  induction ws with
  | nil => rfl
  | cons b r ih =>
    cases r with
    | nil => simp [joinW]
    | cons c r =>
      simp only [List.cons_append, joinW] at *
      rw [ih]
      simp

theorem strCells_app (a b : ByteArray) : Lib.strCells (a ++ b) = Lib.strCells a ++ Lib.strCells b := by
  simp [Lib.strCells]

end Go.Proofs.YtefcmijobbgpbaaDoor

namespace Go.Proofs.YtefcmijobbgpbaaDoor
open Go.RowKit

theorem rtU8 : RowTy Tryd.prog 77 5 1 1 := ⟨by kernel_rfl, by kernel_rfl, by decide⟩

end Go.Proofs.YtefcmijobbgpbaaDoor

namespace Go.Proofs.YtefcmijobbgpbaaDoor
open Go.RowKit

theorem run_eqIn_fault (w : World) (a n a' n' : Int) :
    (Op.equalIn 10000 28 (.agg #[.int .i64 a, .int .i64 n]) (.agg #[.int .i64 a', .int .i64 n'])).run Tryd.prog w = .ok ((a == a') && (n == n')) w := by
  rw [run_equalIn_struct w 9999 28 _ _ (by kernel_rfl) (by kernel_rfl)]
  simp only [Program.fieldsOf, Tryd.underlying28]
  simp [Op.eqFields, go_sem]
  by_cases h1 : a = a' <;> by_cases h2 : n = n' <;> simp [h1, h2]

theorem fault_guard : Tryd.prog.eqGuardType Tryd.prog.depth 28 = false := by kernel_rfl

end Go.Proofs.YtefcmijobbgpbaaDoor
