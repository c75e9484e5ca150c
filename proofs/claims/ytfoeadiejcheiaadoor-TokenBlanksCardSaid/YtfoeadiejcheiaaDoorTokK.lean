/- Contracts of strconv.ParseUint at digits, base 10, 63 bits. Conditions: those of each theorem. -/
import Derived.Test.YtfoeadiejcheiaaDoorTokJ
import Derived.Test.YtfoeadiejcheiaaDoorShelf
namespace Go.Proofs.YtfoeadiejcheiaaDoor
open Go.RowKit

theorem foldl_ge (l : List UInt8) (n m : Nat) (h : n ≤ m) : n ≤ l.foldl (fun n d => n * 10 + (d.toNat - 48)) m := Nat.le_trans h (numVal_mono_start l m)

theorem numVal_take_le (l : List UInt8) (k : Nat) : numVal (l.take k) ≤ numVal l := by
  have h : numVal l = (l.drop k).foldl (fun n d => n * 10 + (d.toNat - 48)) (numVal (l.take k)) := by
    unfold numVal
    rw [← List.foldl_append, List.take_append_drop]
  rw [h]
  exact numVal_mono_start _ _

theorem not_empty {s : ByteArray} (h : 0 < s.size) : s.toList.isEmpty = false := by
  rw [ByteArray.toList_eq]
  cases hl : s.data.toList with
  | nil => have : s.data.toList.length = s.size := rfl; rw [hl] at this; simp at this; omega
  | cons _ _ => rfl

theorem Keeps.bytes {S : List Nat} {a w : World} (h : Keeps S a w) (e : TypeId) (s : ByteArray) : Keeps S a (Lib.bytesWorld w e s) :=
  h.then ⟨rfl, rfl, rfl, by rw [Lib.bytesWorld_size]; omega, fun k hk _ => Lib.bytesWorld_at_old w e s k hk⟩

/-- What the inner ParseUint answers at digits. -/
def parseV (v : Nat) : Value := if v ≤ 9223372036854775807 then .tuple #[.int .u64 v, .nilIface] else .tuple #[.int .u64 9223372036854775807, .iface 83 (.int .i64 1)]

set_option maxHeartbeats 4000000 in
set_option maxRecDepth 100000 in
theorem parseIn_any (s : ByteArray) (w : World) (hne : 0 < s.size) (hd : ∀ c ∈ s.data.toList, isDigit c = true) (hs : s.size ≤ 4611686018427387904) :
    Calls Tryd.prog 37 #[.string s, .int .i64 10, .int .i64 63] w fun e w' => e = .returned (parseV (numVal s.data.toList)) ∧ Keeps [] w w' := by
  have hk0 := Keeps.refl [] w
  have hne' : s.toList.isEmpty = false := not_empty hne
  have HD := Lib.hid hd
  clear hd
  have hcv := Lib.run_convert_string_bytes (P := Tryd.prog) w 9 43 5 s (u := .string) Tryd.underlying9 Tryd.underlying43 Tryd.underlying5
  have hB : ∀ j (hj : j < s.size), (Lib.bytesWorld w 5 s).cell? ⟨w.heap.size, j, none⟩ = some (.int .u8 s[j].toNat) := fun j hj => by
    rw [Lib.bytesWorld_cell w 5 s j hj]
    congr 3
    exact congrArg UInt8.toNat (List.getElem_eq_getD (l := s.data.toList) (h := hj) 0).symm
  have hK := Keeps.bytes (Keeps.refl [] w) 5 s
  obtain ⟨W1, hW1⟩ : ∃ W1, W1 = Lib.bytesWorld w 5 s := ⟨_, rfl⟩
  rw [← hW1] at hcv hB hK
  clear hW1
  have HB := Lib.hid hB
  clear hB
  go_enter Tryd.func37, Tryd.ntmps37
  go_wp2_with fail
  go_loop [12, 13, 101] (fun vu vn vi => ∃ (k : Nat) (a : Int), vu = .bool false ∧ vn = .int .u64 a ∧ vi = .int .i64 k ∧ k ≤ s.size ∧ Hid (a = (numVal (s.data.toList.take k) : Nat) ∧ a ≤ 9223372036854775807)) (fun _ _ vi => s.size - (intOf vi).toNat)
  case atStart => exact ⟨0, 0, rfl, rfl, rfl, Nat.zero_le _, Lib.hid ⟨rfl, by omega⟩⟩
  case round =>
    obtain ⟨k, a, rfl, rfl, rfl, hk, hh⟩ := hrel
    obtain ⟨ha, ham⟩ := hh.out
    clear hh
    have a0 : 0 ≤ a := by omega
    by_cases hkn : k < s.size
    · have hc := HB.out k hkn
      have hdg := HD.out s[k] (by exact List.getElem_mem (l := s.data.toList) hkn)
      obtain ⟨hd0, hd1⟩ := digit_val hdg
      have htk : numVal (s.data.toList.take (k + 1)) = numVal (s.data.toList.take k) * 10 + (s[k].toNat - 48) := by
        rw [List.take_succ_eq_append_getElem (show k < s.data.toList.length from hkn), numVal_snoc]
        rfl
      have hall := numVal_take_le s.data.toList (k + 1)
      generalize s[k] = c at *
      by_cases hov : 9223372036854775807 < a * 10 + ((c.toNat : Int) - 48)
      · have hV : parseV (numVal s.data.toList) = .tuple #[.int .u64 9223372036854775807, .iface 83 (.int .i64 1)] := by
          unfold parseV
          rw [if_neg (by omega)]
        have HV := Lib.hid hV
        have d1 : decide ((k : Int) < (s.size : Int)) = true := by simp; omega
        clear htk hall ha hdg hV
        by_cases hcut : 1844674407370955162 ≤ a
        · clear hov
          go_wp2_with fail
          go_returns
          exact ⟨by rw [HV.out]; rfl, hK⟩
        · by_cases hw : a * 10 + ((c.toNat : Int) - 48) < 18446744073709551616
          · go_wp2_with fail
            go_returns
            exact ⟨by rw [HV.out]; rfl, hK⟩
          · have hwr : IntKind.u64.wrap (a * 10 + ((c.toNat : Int) - 48)) = a * 10 + ((c.toNat : Int) - 48) - 18446744073709551616 := by
              rw [IntKind.wrap_u64]
              omega
            go_wp2_with fail
            go_returns
            exact ⟨by rw [HV.out]; rfl, hK⟩
      · have HN : Hid (a * 10 + ((c.toNat : Int) - 48) = (numVal (s.data.toList.take (k + 1)) : Nat) ∧ a * 10 + ((c.toNat : Int) - 48) ≤ 9223372036854775807) := Lib.hid ⟨by omega, by omega⟩
        have d1 : decide ((k : Int) < (s.size : Int)) = true := by simp; omega
        clear htk hall ha hdg
        go_wp2_with fail
        exact ⟨⟨k + 1, a * 10 + ((c.toNat : Int) - 48), rfl, rfl, by simp, by omega, HN⟩, by simp only [intOf]; omega⟩
    · have hke : k = s.size := by omega
      have hall : s.data.toList.take k = s.data.toList := List.take_of_length_le (by rw [hke]; exact Nat.le_refl _)
      have hV : parseV (numVal s.data.toList) = .tuple #[.int .u64 a, .nilIface] := by
        unfold parseV
        rw [hall] at ha
        rw [if_pos (by omega), ha]
      have HV := Lib.hid hV
      have d1 : decide ((k : Int) < (s.size : Int)) = false := by simp; omega
      clear hall ha hV hke
      go_wp2_with fail
      go_returns
      exact ⟨by rw [HV.out]; rfl, hK⟩

end Go.Proofs.YtfoeadiejcheiaaDoor
