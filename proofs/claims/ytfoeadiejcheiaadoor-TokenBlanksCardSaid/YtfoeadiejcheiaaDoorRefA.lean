/- Join of nothing; the reference's digits. Conditions: those of each theorem. -/
import Derived.Test.YtfoeadiejcheiaaDoorTokZ
namespace Go.Proofs.YtfoeadiejcheiaaDoor
open Go.RowKit

set_option maxHeartbeats 2000000 in
set_option maxRecDepth 100000 in
theorem join_none (ao : Option Addr) (cap : Nat) (w : World) :
    Calls Tryd.prog 7 #[.slice ao 0 cap] w fun e w' => JoinOut (joinM []) e ∧ Keeps [] w w' := by
  have hk0 := Keeps.refl [] w
  have HJ := fun w => Lib.hid (joinLib_any w w.heap.size none 0 0 [] ⟨rfl, .inl ⟨rfl, rfl⟩⟩ (by omega) (by simp [joinW]))
  have HM : Hid (joinM [] = .ok []) := Lib.hid rfl
  go_enter Tryd.func7, Tryd.ntmps7
  go_wp2_with fail
  go_loopw [5, 6, 50] (fun a b i wr => a = .slice none 0 0 ∧ b = .int .i64 0 ∧ i = .int .i64 0 ∧ wr = w) (fun _ _ _ _ => 0)
  case atStart => exact ⟨rfl, rfl, rfl, rfl⟩
  case round =>
    obtain ⟨rfl, rfl, rfl, rfl⟩ := hrel
    go_wp2_with (go_at_call 13; refine (HJ _).out.mono ?_; rintro e w2 ⟨rfl, hk2⟩)
    go_returns
    exact ⟨.good HM.out rfl, hk2⟩

theorem dec_len (n : Nat) (hn : n ≤ 9223372036854775807) : (Lib.decDigits n).length ≤ 21 := by
  have h := Lib.itoa_length_le (n : Int) (by omega) (by omega)
  unfold Lib.itoa at h
  rwa [if_neg (by omega), Int.toNat_natCast] at h

theorem conv_list (_S : List Nat) (ns : List Int) (w : World) (B n c : Nat) (hn : n = ns.length) (hB : w.heap[B]? = some (.cells (ns.map (Value.int .u8)).toArray 5 (0, 0))) :
    (convert 43 9 (.slice (some ⟨B, 0, none⟩) n c)).run Tryd.prog w = .ok (.string (ns.foldl (fun r n => r.push (UInt8.ofNat n.toNat)) ByteArray.empty)) w := by
  rw [run_convert_bytes_string w 43 9 5 _ _ _ Tryd.underlying43 Tryd.underlying5 Tryd.underlying9]
  subst hn
  refine run_bytesToString w _ _ _ _ ?_
  have h := run_loadCells_list (P := Tryd.prog) (w := w) ⟨B, 0, none⟩ (ns.map (Value.int .u8)) ?_
  · rw [List.length_map] at h
    exact h
  · intro j v hj
    rw [addr_add, cell_of_row _ B _ _ _ _ hB]
    rw [List.getElem?_toArray, Nat.zero_add]
    exact hj

set_option maxHeartbeats 2000000 in
set_option maxRecDepth 100000 in
theorem digits_any (n : Nat) (w : World) (hn : n ≤ 9223372036854775807) :
    Calls Tryd.prog 21 #[.int .i64 n] w fun e w' => e = .returned (.string ⟨(Lib.decDigits n).toArray⟩) ∧ Keeps [] w w' := by
  have hk0 := Keeps.refl [] w
  go_enter Tryd.func21, Tryd.ntmps21
  go_wp2_with fail
  go_loopw [0, 3] (fun m s wr => ∃ (k : Nat) (x : List UInt8), m = .int .i64 k ∧ s = .string ⟨x.toArray⟩ ∧ k ≤ 9223372036854775807 ∧ Hid (Lib.decDigits n = Lib.decDigits k ++ x) ∧ Keeps [] w wr) (fun m _ _ => (intOf m).toNat)
  case atStart => exact ⟨n, [], rfl, rfl, hn, Lib.hid (by simp), hk0⟩
  case round =>
    obtain ⟨k, x, rfl, rfl, hk, hd, hkw⟩ := hrel
    have hxl : x.length ≤ 21 := by
      have h1 := congrArg List.length hd.out
      have h2 := dec_len n hn
      rw [List.length_append] at h1
      omega
    obtain ⟨d, hdd⟩ : ∃ d : UInt8, d = UInt8.ofNat (48 + k % 10) := ⟨_, rfl⟩
    have hcv : (convert 43 9 (.slice (some ⟨wr.heap.size, 0, none⟩) 1 1)).run Tryd.prog (wr.alloc (.cells #[.int .u8 (48 + (k : Int) % 10)] 5)) = .ok (.string ⟨#[d]⟩) (wr.alloc (.cells #[.int .u8 (48 + (k : Int) % 10)] 5)) := by
      refine (conv_list [] [48 + (k : Int) % 10] (wr.alloc (.cells #[.int .u8 (48 + (k : Int) % 10)] 5)) wr.heap.size 1 1 rfl (heap_alloc_new _ _)).trans ?_
      have e : (48 + (k : Int) % 10).toNat = 48 + k % 10 := by omega
      show Result.ok (Value.string (ByteArray.mk #[UInt8.ofNat (48 + (k : Int) % 10).toNat])) _ = _
      rw [e, hdd]
    have HD := Lib.hid hdd
    clear hdd
    go_wp2_with fail
    · rename_i h0
      go_returns
      refine ⟨?_, hkw.alloc _⟩
      have h1 := eq_of_beq h0
      have hk10 : k < 10 := by omega
      have e : (⟨#[d]⟩ ++ ⟨x.toArray⟩ : ByteArray) = ⟨(Lib.decDigits n).toArray⟩ := by
        rw [hd.out, Lib.decDigits_one hk10, HD.out, Nat.mod_eq_of_lt hk10]
        apply ByteArray.ext
        simp
      exact congrArg (fun b => Ending.returned (.string b)) e
    · rename_i h0
      refine ⟨⟨k / 10, d :: x, by simp, ?_, by omega, Lib.hid ?_, hkw.alloc _⟩, ?_⟩
      · congr 1
      · rw [hd.out]
        have hk10 : ¬ k < 10 := by
          intro h
          rw [beq_eq_false_iff_ne] at h0
          omega
        conv => lhs; unfold Lib.decDigits
        rw [dif_neg hk10, ← HD.out]
        simp
      · rw [beq_eq_false_iff_ne] at h0
        simp only [intOf]
        omega

end Go.Proofs.YtfoeadiejcheiaaDoor
