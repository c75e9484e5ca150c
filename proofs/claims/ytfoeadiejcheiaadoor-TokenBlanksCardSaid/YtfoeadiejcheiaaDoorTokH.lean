/- Contracts of the reference's sign and number. Conditions: those of each theorem. -/
import Derived.Test.YtfoeadiejcheiaaDoorTokG
namespace Go.Proofs.YtfoeadiejcheiaaDoor
open Go.RowKit

theorem extract_list (s : ByteArray) (a b : Nat) : s.extract a b = ⟨((s.data.toList.drop a).take (b - a)).toArray⟩ := by
  apply ByteArray.ext
  apply Array.toList_inj.1
  simp [List.extract_eq_take_drop]

/-- The longest sign that stands at the head. -/
def signS : List UInt8 → List UInt8
  | [] => []
  | c :: r => if (c = 60 ∨ c = 61 ∨ c = 33) ∧ r.head? = some 61 then [c, 61] else if isSign c = true ∧ c ≠ 33 then [c] else []

theorem Keeps.drewN {S : List Nat} {a w : World} (h : Keeps S a w) (n : Nat) : Keeps S a (w.drewN n) := ⟨h.os, h.tape, h.output, h.size, h.block⟩

def oneSigns : List UInt8 := [40, 41, 58, 59, 46, 43, 45, 42, 60, 61]

theorem oneSigns_iff (c : UInt8) : oneSigns.contains c = true ↔ (isSign c = true ∧ c ≠ 33) := by
  have := all_bytes (p := fun c => oneSigns.contains c == (isSign c && c != 33)) (by decide +kernel) c
  simp only [beq_iff_eq] at this
  rw [this]
  simp

set_option maxHeartbeats 2000000 in
set_option maxRecDepth 100000 in
theorem refSign_any (s : ByteArray) (at_ : Nat) (w : World) (hat : at_ < s.size) (hs : s.size ≤ 4611686018427387904) :
    Calls Tryd.prog 35 #[.string s, .int .i64 (at_ : Int)] w fun e w' => e = .returned (.string ⟨(signS (s.data.toList.drop at_)).toArray⟩) ∧ Keeps [] w w' := by
  have hk0 := Keeps.refl [] w
  have hsz : s.data.toList.length = s.size := rfl
  have hd : s.data.toList.drop at_ = s[at_] :: s.data.toList.drop (at_ + 1) := List.drop_eq_getElem_cons (by exact hat)
  have ex1 : s.extract at_ (at_ + 1) = ⟨[s[at_]].toArray⟩ := by
    rw [extract_list, hd]
    have : at_ + 1 - at_ = 1 := by omega
    rw [this]
    rfl
  have ex2 : ∀ h : at_ + 1 < s.size, s.extract at_ (at_ + 2) = ⟨[s[at_], s[at_ + 1]].toArray⟩ := by
    intro h
    rw [extract_list, hd, List.drop_eq_getElem_cons (by exact h)]
    have : at_ + 2 - at_ = 2 := by omega
    rw [this]
    rfl
  have hh : ∀ h : at_ + 1 < s.size, (s.data.toList.drop (at_ + 1)).head? = some s[at_ + 1] := by
    intro h
    rw [List.drop_eq_getElem_cons (by exact h)]
    rfl
  have hh0 : ¬ at_ + 1 < s.size → (s.data.toList.drop (at_ + 1)).head? = none := by
    intro h
    rw [List.drop_eq_nil_of_le (by omega)]
    rfl
  have L2 : ∀ h : at_ + 1 < s.size, s[at_ + 1].toNat = 61 → (s[at_].toNat = 60 ∨ s[at_].toNat = 61 ∨ s[at_].toNat = 33) → (⟨(signS (s.data.toList.drop at_)).toArray⟩ : ByteArray) = s.extract at_ (at_ + 2) := by
    intro h h1 h2
    have hc : s[at_] = 60 ∨ s[at_] = 61 ∨ s[at_] = 33 := by
      rcases h2 with h | h | h
      · exact .inl (UInt8.toNat_inj.1 h)
      · exact .inr (.inl (UInt8.toNat_inj.1 h))
      · exact .inr (.inr (UInt8.toNat_inj.1 h))
    have h61 : s[at_ + 1] = 61 := UInt8.toNat_inj.1 h1
    rw [ex2 h, hd, signS, if_pos ⟨hc, by rw [hh h, h61]⟩, h61]
  have L1 : (¬ (at_ + 1 < s.size) ∨ (∃ h : at_ + 1 < s.size, s[at_ + 1].toNat ≠ 61) ∨ (s[at_].toNat ≠ 60 ∧ s[at_].toNat ≠ 61 ∧ s[at_].toNat ≠ 33)) → signS (s.data.toList.drop at_) = if isSign s[at_] = true ∧ s[at_] ≠ 33 then [s[at_]] else [] := by
    intro h
    rw [hd, signS, if_neg]
    rintro ⟨h1, h2⟩
    rcases h with h | ⟨h, h3⟩ | ⟨h3, h4, h5⟩
    · rw [hh0 h] at h2; cases h2
    · rw [hh h] at h2
      have := Option.some.inj h2
      exact h3 (by rw [this]; rfl)
    · rcases h1 with h | h | h <;> rw [h] at h3 h4 h5
      · exact h3 rfl
      · exact h4 rfl
      · exact h5 rfl
  have wr0 : IntKind.i64.wrap ((at_ : Int) + 1) = (at_ : Int) + 1 := IntWalk.i64_in _ (by omega)
  have wr2 : IntKind.i64.wrap ((at_ : Int) + 2) = (at_ : Int) + 2 := IntWalk.i64_in _ (by omega)
  have b0 : (0 : Int) ≤ (at_ : Int) := by omega
  have b1 : (at_ : Int) < (s.size : Int) := by omega
  have HX1 := Lib.hid ex1
  have HL2 := Lib.hid L2
  have HL1 := Lib.hid L1
  clear hh hh0 L1 L2 ex1 ex2 hd hsz
  go_enter Tryd.func35, Tryd.ntmps35
  by_cases hlt : at_ + 1 < s.size
  · have d1 : decide ((at_ : Int) + 1 < (s.size : Int)) = true := by simp; omega
    have c0 : (0 : Int) ≤ (at_ : Int) + 1 := by omega
    have c1 : (at_ : Int) + 1 < (s.size : Int) := by omega
    have c2 : (at_ : Int) + 2 ≤ (s.size : Int) := by omega
    go_wp2_with fail
    all_goals try simp only [beq_iff_eq, ne_eq, beq_eq_false_iff_ne] at *
    all_goals try (go_returns; exact ⟨by rw [HL2.out hlt (by omega) (by omega)]; rfl, hk0⟩)
    all_goals
      have hS := HL1.out (by first | exact .inr (.inl ⟨hlt, by omega⟩) | exact .inr (.inr ⟨by omega, by omega, by omega⟩))
      have hS := Lib.hid hS
      clear HL2 HL1
      go_loopw [6] (fun i wr => ∃ k : Nat, k ≤ 10 ∧ i = .int .i64 k ∧ Hid (∀ x, x < k → oneSigns[x]! ≠ s[at_]) ∧ Keeps [] w wr) (fun i _ => 10 - (intOf i).toNat)
      case atStart => exact ⟨0, by omega, rfl, Lib.hid (fun x hx => absurd hx (Nat.not_lt_zero x)), hk0⟩
      case round =>
        obtain ⟨k, hk10, rfl, hn, hk⟩ := hrel
        by_cases hlt : k < 10
        · have d1 : decide ((k : Int) < 10) = true := by simp; omega
          go_wp2_with fail
          have hat0 : oneSigns[k]! = oneSigns[k]'(by simp [oneSigns]; omega) := getElem!_pos oneSigns k (by simp [oneSigns]; omega)
          have hlist : ((⟨#[40, 41, 58, 59, 46, 43, 45, 42, 60, 61]⟩ : ByteArray)[k]'(by exact hlt)) = oneSigns[k]! := by rw [hat0]; rfl
          have Hlist := Lib.hid hlist
          clear hlist hat0
          have wrk : IntKind.i64.wrap ((k : Int) + 1) = (k : Int) + 1 := IntWalk.i64_in _ (by omega)
          have k0 : (0 : Int) ≤ (k : Int) := by omega
          have k1 : (k : Int) < 10 := by omega
          go_wp2_with fail
          repeat (go_quiet (fail); try go_wp2_with fail)
          · rename_i hcmp
            go_returns
            refine ⟨?_, hk.drewN _⟩
            have hin : isSign s[at_] = true ∧ s[at_] ≠ 33 := by
              have e : s[at_] = oneSigns[k]! := by
                rw [← Hlist.out]
                apply UInt8.toNat_inj.1
                have h0 := eq_of_beq hcmp
                omega
              rw [e]
              have : ∀ k : Fin 10, isSign oneSigns[k.val]! = true ∧ oneSigns[k.val]! ≠ 33 := by decide
              exact this ⟨k, hlt⟩
            rw [hS.out, if_pos hin]
            exact congrArg (fun x => Ending.returned (Value.string x)) HX1.out
          · rename_i hcmp
            refine ⟨⟨k + 1, by omega, by simp, Lib.hid (fun x hx => ?_), hk.drewN _⟩, by simp only [intOf]; omega⟩
            rcases Nat.lt_or_ge x k with h | h
            · exact hn.out x h
            · have e : x = k := by omega
              rw [e, ← Hlist.out]
              intro e
              rw [e] at hcmp
              simp at hcmp
        · have hk' : k = 10 := by omega
          subst hk'
          have hno : ¬ (isSign s[at_] = true ∧ s[at_] ≠ 33) := by
            rw [← oneSigns_iff, List.contains_iff_mem]
            intro hm
            obtain ⟨x, hx, hx2⟩ := List.mem_iff_getElem.1 hm
            refine hn.out x hx ?_
            rw [getElem!_pos oneSigns x hx, hx2]
          have hS := hS.out
          rw [if_neg hno] at hS
          have hS := Lib.hid hS
          clear hno
          go_wp2_with fail
          go_returns
          exact ⟨by rw [hS.out]; rfl, hk⟩
  · have d1 : decide ((at_ : Int) + 1 < (s.size : Int)) = false := by simp; omega
    have c2 : (at_ : Int) + 1 ≤ (s.size : Int) := by omega
    go_wp2_with fail
    all_goals
      have hS := HL1.out (.inl hlt)
      have hS := Lib.hid hS
      clear HL2 HL1
      go_loopw [6] (fun i wr => ∃ k : Nat, k ≤ 10 ∧ i = .int .i64 k ∧ Hid (∀ x, x < k → oneSigns[x]! ≠ s[at_]) ∧ Keeps [] w wr) (fun i _ => 10 - (intOf i).toNat)
      case atStart => exact ⟨0, by omega, rfl, Lib.hid (fun x hx => absurd hx (Nat.not_lt_zero x)), hk0⟩
      case round =>
        obtain ⟨k, hk10, rfl, hn, hk⟩ := hrel
        by_cases hlt : k < 10
        · have d1 : decide ((k : Int) < 10) = true := by simp; omega
          go_wp2_with fail
          have hat0 : oneSigns[k]! = oneSigns[k]'(by simp [oneSigns]; omega) := getElem!_pos oneSigns k (by simp [oneSigns]; omega)
          have hlist : ((⟨#[40, 41, 58, 59, 46, 43, 45, 42, 60, 61]⟩ : ByteArray)[k]'(by exact hlt)) = oneSigns[k]! := by rw [hat0]; rfl
          have Hlist := Lib.hid hlist
          clear hlist hat0
          have wrk : IntKind.i64.wrap ((k : Int) + 1) = (k : Int) + 1 := IntWalk.i64_in _ (by omega)
          have k0 : (0 : Int) ≤ (k : Int) := by omega
          have k1 : (k : Int) < 10 := by omega
          go_wp2_with fail
          repeat (go_quiet (fail); try go_wp2_with fail)
          · rename_i hcmp
            go_returns
            refine ⟨?_, hk.drewN _⟩
            have hin : isSign s[at_] = true ∧ s[at_] ≠ 33 := by
              have e : s[at_] = oneSigns[k]! := by
                rw [← Hlist.out]
                apply UInt8.toNat_inj.1
                have h0 := eq_of_beq hcmp
                omega
              rw [e]
              have : ∀ k : Fin 10, isSign oneSigns[k.val]! = true ∧ oneSigns[k.val]! ≠ 33 := by decide
              exact this ⟨k, hlt⟩
            rw [hS.out, if_pos hin]
            exact congrArg (fun x => Ending.returned (Value.string x)) HX1.out
          · rename_i hcmp
            refine ⟨⟨k + 1, by omega, by simp, Lib.hid (fun x hx => ?_), hk.drewN _⟩, by simp only [intOf]; omega⟩
            rcases Nat.lt_or_ge x k with h | h
            · exact hn.out x h
            · have e : x = k := by omega
              rw [e, ← Hlist.out]
              intro e
              rw [e] at hcmp
              simp at hcmp
        · have hk' : k = 10 := by omega
          subst hk'
          have hno : ¬ (isSign s[at_] = true ∧ s[at_] ≠ 33) := by
            rw [← oneSigns_iff, List.contains_iff_mem]
            intro hm
            obtain ⟨x, hx, hx2⟩ := List.mem_iff_getElem.1 hm
            refine hn.out x hx ?_
            rw [getElem!_pos oneSigns x hx, hx2]
          have hS := hS.out
          rw [if_neg hno] at hS
          have hS := Lib.hid hS
          clear hno
          go_wp2_with fail
          go_returns
          exact ⟨by rw [hS.out]; rfl, hk⟩

end Go.Proofs.YtfoeadiejcheiaaDoor
