/- The texts of ExprBinds, read. Conditions: those of each theorem. -/
import Derived.Test.YtefcmijobbgpbaaGreatDoorExLL
import Derived.Test.YtefcmijobbgpbaaGreatDoorExBB
import Derived.Test.YtefcmijobbgpbaaGreatDoorExEE
namespace Go.Proofs.YtefcmijobbgpbaaGreatDoor
open Go.RowKit

def partEq (p q : PartR) : Bool := (p.kind == q.kind) && ((p.n == q.n) && ((p.s.toList == q.s.toList) && ((p.stage.toList == q.stage.toList) && (p.field == q.field))))
/-- The same parts? -/
def sameM : List PartR → List PartR → Bool
  | [], [] => true
  | p :: l, q :: l' => partEq p q && sameM l l'
  | _, _ => false

theorem sameM_len : ∀ {l l' : List PartR}, l.length ≠ l'.length → sameM l l' = false
  | [], [], h => absurd rfl h
  | [], _ :: _, _ => rfl
  | _ :: _, [], _ => rfl
  | p :: l, q :: l', h => by rw [sameM, sameM_len (l := l) (l' := l') (by simpa using h), Bool.and_false]

theorem sameM_step {l l' : List PartR} {k : Nat} {p q : PartR} (hp : l[k]? = some p) (hq : l'[k]? = some q) : sameM (l.drop k) (l'.drop k) = (partEq p q && sameM (l.drop (k + 1)) (l'.drop (k + 1))) := by
  have hk : k < l.length := by
    rcases Nat.lt_or_ge k l.length with h | h
    · exact h
    · rw [List.getElem?_eq_none h] at hp; cases hp
  have hk' : k < l'.length := by
    rcases Nat.lt_or_ge k l'.length with h | h
    · exact h
    · rw [List.getElem?_eq_none h] at hq; cases hq
  rw [List.drop_eq_getElem_cons hk, List.drop_eq_getElem_cons hk']
  rw [List.getElem?_eq_getElem hk] at hp
  rw [List.getElem?_eq_getElem hk'] at hq
  cases hp
  cases hq
  rfl

def bd00 : ByteArray := ⟨#[49, 32, 43, 32, 50, 32, 42, 32, 51, 32, 60, 32, 52]⟩
def bdP00 : List PartR := [opP 7, opP 4, numP 1, opP 6, numP 2, numP 3, numP 4]
theorem bd00_read : readM bd00 = .ok bdP00 := by kernel_rfl
def bd01 : ByteArray := ⟨#[40, 49, 32, 43, 32, 40, 50, 32, 42, 32, 51, 41, 41, 32, 60, 32, 52]⟩
def bdP01 : List PartR := [opP 7, opP 4, numP 1, opP 6, numP 2, numP 3, numP 4]
theorem bd01_read : readM bd01 = .ok bdP01 := by kernel_rfl
def bd02 : ByteArray := ⟨#[40, 40, 49, 32, 43, 32, 50, 41, 32, 42, 32, 51, 41, 32, 60, 32, 52]⟩
def bdP02 : List PartR := [opP 7, opP 6, opP 4, numP 1, numP 2, numP 3, numP 4]
theorem bd02_read : readM bd02 = .ok bdP02 := by kernel_rfl
theorem bd0_same : sameM bdP00 bdP01 = true := by kernel_rfl
theorem bd0_other : sameM bdP00 bdP02 = false := by kernel_rfl
def bd10 : ByteArray := ⟨#[49, 32, 45, 32, 50, 32, 45, 32, 51, 32, 60, 32, 52]⟩
def bdP10 : List PartR := [opP 7, opP 5, opP 5, numP 1, numP 2, numP 3, numP 4]
theorem bd10_read : readM bd10 = .ok bdP10 := by kernel_rfl
def bd11 : ByteArray := ⟨#[40, 40, 49, 32, 45, 32, 50, 41, 32, 45, 32, 51, 41, 32, 60, 32, 52]⟩
def bdP11 : List PartR := [opP 7, opP 5, opP 5, numP 1, numP 2, numP 3, numP 4]
theorem bd11_read : readM bd11 = .ok bdP11 := by kernel_rfl
def bd12 : ByteArray := ⟨#[40, 49, 32, 45, 32, 40, 50, 32, 45, 32, 51, 41, 41, 32, 60, 32, 52]⟩
def bdP12 : List PartR := [opP 7, opP 5, numP 1, opP 5, numP 2, numP 3, numP 4]
theorem bd12_read : readM bd12 = .ok bdP12 := by kernel_rfl
theorem bd1_same : sameM bdP10 bdP11 = true := by kernel_rfl
theorem bd1_other : sameM bdP10 bdP12 = false := by kernel_rfl
def bd20 : ByteArray := ⟨#[110, 48, 32, 60, 32, 49, 32, 111, 114, 32, 110, 49, 32, 60, 32, 50, 32, 97, 110, 100, 32, 110, 50, 32, 60, 32, 51]⟩
def bdP20 : List PartR := [opP 12, opP 7, fieldP ⟨#[]⟩ 0, numP 1, opP 11, opP 7, fieldP ⟨#[]⟩ 1, numP 2, opP 7, fieldP ⟨#[]⟩ 2, numP 3]
theorem bd20_read : readM bd20 = .ok bdP20 := by kernel_rfl
def bd21 : ByteArray := ⟨#[40, 110, 48, 32, 60, 32, 49, 41, 32, 111, 114, 32, 40, 40, 110, 49, 32, 60, 32, 50, 41, 32, 97, 110, 100, 32, 40, 110, 50, 32, 60, 32, 51, 41, 41]⟩
def bdP21 : List PartR := [opP 12, opP 7, fieldP ⟨#[]⟩ 0, numP 1, opP 11, opP 7, fieldP ⟨#[]⟩ 1, numP 2, opP 7, fieldP ⟨#[]⟩ 2, numP 3]
theorem bd21_read : readM bd21 = .ok bdP21 := by kernel_rfl
def bd22 : ByteArray := ⟨#[40, 40, 110, 48, 32, 60, 32, 49, 41, 32, 111, 114, 32, 40, 110, 49, 32, 60, 32, 50, 41, 41, 32, 97, 110, 100, 32, 40, 110, 50, 32, 60, 32, 51, 41]⟩
def bdP22 : List PartR := [opP 11, opP 12, opP 7, fieldP ⟨#[]⟩ 0, numP 1, opP 7, fieldP ⟨#[]⟩ 1, numP 2, opP 7, fieldP ⟨#[]⟩ 2, numP 3]
theorem bd22_read : readM bd22 = .ok bdP22 := by kernel_rfl
theorem bd2_same : sameM bdP20 bdP21 = true := by kernel_rfl
theorem bd2_other : sameM bdP20 bdP22 = false := by kernel_rfl
def bd30 : ByteArray := ⟨#[110, 111, 116, 32, 110, 48, 32, 60, 32, 49, 32, 97, 110, 100, 32, 110, 49, 32, 60, 32, 50]⟩
def bdP30 : List PartR := [opP 11, opP 13, opP 7, fieldP ⟨#[]⟩ 0, numP 1, opP 7, fieldP ⟨#[]⟩ 1, numP 2]
theorem bd30_read : readM bd30 = .ok bdP30 := by kernel_rfl
def bd31 : ByteArray := ⟨#[40, 110, 111, 116, 32, 40, 110, 48, 32, 60, 32, 49, 41, 41, 32, 97, 110, 100, 32, 40, 110, 49, 32, 60, 32, 50, 41]⟩
def bdP31 : List PartR := [opP 11, opP 13, opP 7, fieldP ⟨#[]⟩ 0, numP 1, opP 7, fieldP ⟨#[]⟩ 1, numP 2]
theorem bd31_read : readM bd31 = .ok bdP31 := by kernel_rfl
def bd32 : ByteArray := ⟨#[110, 111, 116, 32, 40, 40, 110, 48, 32, 60, 32, 49, 41, 32, 97, 110, 100, 32, 40, 110, 49, 32, 60, 32, 50, 41, 41]⟩
def bdP32 : List PartR := [opP 13, opP 11, opP 7, fieldP ⟨#[]⟩ 0, numP 1, opP 7, fieldP ⟨#[]⟩ 1, numP 2]
theorem bd32_read : readM bd32 = .ok bdP32 := by kernel_rfl
theorem bd3_same : sameM bdP30 bdP31 = true := by kernel_rfl
theorem bd3_other : sameM bdP30 bdP32 = false := by kernel_rfl
def bd40 : ByteArray := ⟨#[49, 32, 42, 32, 50, 32, 43, 32, 51, 32, 60, 32, 52]⟩
def bdP40 : List PartR := [opP 7, opP 4, opP 6, numP 1, numP 2, numP 3, numP 4]
theorem bd40_read : readM bd40 = .ok bdP40 := by kernel_rfl
def bd41 : ByteArray := ⟨#[40, 40, 49, 32, 42, 32, 50, 41, 32, 43, 32, 51, 41, 32, 60, 32, 52]⟩
def bdP41 : List PartR := [opP 7, opP 4, opP 6, numP 1, numP 2, numP 3, numP 4]
theorem bd41_read : readM bd41 = .ok bdP41 := by kernel_rfl
def bd42 : ByteArray := ⟨#[40, 49, 32, 42, 32, 40, 50, 32, 43, 32, 51, 41, 41, 32, 60, 32, 52]⟩
def bdP42 : List PartR := [opP 7, opP 6, numP 1, opP 4, numP 2, numP 3, numP 4]
theorem bd42_read : readM bd42 = .ok bdP42 := by kernel_rfl
theorem bd4_same : sameM bdP40 bdP41 = true := by kernel_rfl
theorem bd4_other : sameM bdP40 bdP42 = false := by kernel_rfl
def bdZ : ByteArray := ⟨#[110, 48, 32, 45, 32, 110, 49, 32, 43, 32, 110, 49, 32, 61, 61, 32, 110, 48, 32, 97, 110, 100, 32, 110, 48, 32, 45, 32, 40, 110, 49, 32, 43, 32, 110, 49, 41, 32, 61, 61, 32, 110, 48, 32, 45, 32, 110, 49, 32, 45, 32, 110, 49]⟩
def bdPZ : List PartR := [opP 11, opP 9, opP 4, opP 5, fieldP ⟨#[]⟩ 0, fieldP ⟨#[]⟩ 1, fieldP ⟨#[]⟩ 1, fieldP ⟨#[]⟩ 0, opP 9, opP 5, fieldP ⟨#[]⟩ 0, opP 4, fieldP ⟨#[]⟩ 1, fieldP ⟨#[]⟩ 1, opP 5, opP 5, fieldP ⟨#[]⟩ 0, fieldP ⟨#[]⟩ 1, fieldP ⟨#[]⟩ 1]
theorem bdZ_read : readM bdZ = .ok bdPZ := by kernel_rfl
def evB (a b : Int) : EvR := ⟨⟨#[]⟩, ⟨#[]⟩, a, b, 0, 0, ⟨#[]⟩⟩
theorem bdZ_form (a b : Int) : holdsB bdPZ (evB a b) [] [] = (decide (wrap64 (wrap64 (a - b) + b) = a ∧ ([] : List UInt8) = [] ∧ false = false) && decide (wrap64 (a - wrap64 (b + b)) = wrap64 (wrap64 (a - b) - b) ∧ ([] : List UInt8) = [] ∧ false = false)) := by kernel_rfl
theorem bdZ_code : holdsC bdPZ [] [] = 0 := by kernel_rfl
theorem bdZ_holds {a b : Int} (ha : -9223372036854775808 ≤ a ∧ a ≤ 9223372036854775807) : holdsB bdPZ (evB a b) [] [] = true := by
  have h1 : wrap64 (wrap64 (a - b) + b) = a := by unfold wrap64; omega
  have h2 : wrap64 (a - wrap64 (b + b)) = wrap64 (wrap64 (a - b) - b) := by unfold wrap64; omega
  rw [bdZ_form, h1, h2]
  simp

def bdS (k : Nat) (j : Nat) : ByteArray := ([[bd00, bd01, bd02], [bd10, bd11, bd12], [bd20, bd21, bd22], [bd30, bd31, bd32], [bd40, bd41, bd42]].getD k []).getD j ⟨#[]⟩
def bdP (k : Nat) (j : Nat) : List PartR := ([[bdP00, bdP01, bdP02], [bdP10, bdP11, bdP12], [bdP20, bdP21, bdP22], [bdP30, bdP31, bdP32], [bdP40, bdP41, bdP42]].getD k []).getD j []

theorem bd_any (k : Nat) (hk : k < 5) : (readM (bdS k 0) = .ok (bdP k 0) ∧ readM (bdS k 1) = .ok (bdP k 1) ∧ readM (bdS k 2) = .ok (bdP k 2)) ∧ sameM (bdP k 0) (bdP k 1) = true ∧ sameM (bdP k 0) (bdP k 2) = false := by
  have hc : k = 0 ∨ k = 1 ∨ k = 2 ∨ k = 3 ∨ k = 4 := by omega
  rcases hc with rfl | rfl | rfl | rfl | rfl
  · exact ⟨⟨bd00_read, bd01_read, bd02_read⟩, bd0_same, bd0_other⟩
  · exact ⟨⟨bd10_read, bd11_read, bd12_read⟩, bd1_same, bd1_other⟩
  · exact ⟨⟨bd20_read, bd21_read, bd22_read⟩, bd2_same, bd2_other⟩
  · exact ⟨⟨bd30_read, bd31_read, bd32_read⟩, bd3_same, bd3_other⟩
  · exact ⟨⟨bd40_read, bd41_read, bd42_read⟩, bd4_same, bd4_other⟩

set_option maxHeartbeats 4000000 in
set_option maxRecDepth 100000 in
theorem same_both (l l' : List PartR) (v v' : Value) (w : World) (h : ArgPart w v l) (h' : ArgPart w v' l') (hl : l.length ≤ 9223372036854775807) :
    Calls Tryz.prog 16 #[v, v'] w fun e w' => e = .returned (.bool (sameM l l')) ∧ Keeps [] w w' := by
  obtain ⟨ao, cap, rfl, _, h2⟩ := h
  obtain ⟨ao', cap', rfl, _, h2'⟩ := h'
  by_cases hnn : l.length = l'.length
  · obtain ⟨n, hn⟩ : ∃ n, l.length = n := ⟨_, rfl⟩
    have hn' : l'.length = n := hnn.symm.trans hn
    rw [hn] at hl ⊢
    rw [hn']
    have HN := Lib.hid (And.intro hn hn')
    have H2 := Lib.hid h2
    have H2' := Lib.hid h2'
    have GD := part_guard
    clear hn hn' h2 h2' hnn
    go_enter Tryz.func16, Tryz.ntmps16
    go_wp2_with fail
    go_loopw [5] (fun i wr => ∃ k : Nat, k ≤ n ∧ i = .int .i64 k ∧ Hid (sameM l l' = sameM (l.drop k) (l'.drop k)) ∧ Keeps [] w wr) (fun i _ => n - (intOf i).toNat)
    case atStart => exact ⟨0, Nat.zero_le _, rfl, Lib.hid rfl, Keeps.refl [] w⟩
    case round =>
      obtain ⟨k, hkn, rfl, hI, hk⟩ := hrel
      by_cases hlt : k < n
      · have d1 : decide ((k : Int) < (n : Int)) = true := by simp; omega
        obtain ⟨p, hp⟩ : ∃ p, l[k]? = some p := ⟨l[k]'(by rw [HN.out.1]; omega), List.getElem?_eq_getElem _⟩
        obtain ⟨q, hq⟩ : ∃ q, l'[k]? = some q := ⟨l'[k]'(by rw [HN.out.2]; omega), List.getElem?_eq_getElem _⟩
        obtain ⟨bk, o, hao, hsl, hcl, hcr⟩ := H2.out (by intro e; rw [e] at hp; cases hp)
        obtain ⟨bk', o', hao', hsl', hcl', hcr'⟩ := H2'.out (by intro e; rw [e] at hq; cases hq)
        subst hao
        subst hao'
        have HST := Lib.hid (hI.out.trans (sameM_step hp hq))
        obtain ⟨c0, c1, c2, c3, c4⟩ := hsl k p hp
        obtain ⟨f0, f1, f2, f3, f4⟩ := hsl' k q hq
        have c0 := hk.cell c0 (by simp)
        have c1 := hk.cell c1 (by simp)
        have c2 := hk.cell c2 (by simp)
        have c3 := hk.cell c3 (by simp)
        have c4 := hk.cell c4 (by simp)
        have f0 := hk.cell f0 (by simp)
        have f1 := hk.cell f1 (by simp)
        have f2 := hk.cell f2 (by simp)
        have f3 := hk.cell f3 (by simp)
        have f4 := hk.cell f4 (by simp)
        have bk0 : (0 : Int) ≤ (k : Int) := by omega
        have bk1 : (k : Int) < (n : Int) := by omega
        have EQ : ∀ w, (Op.equalIn 10000 58 (.agg #[.int .i64 p.kind, .int .i64 p.n, .string p.s, .string p.stage, .int .i64 p.field]) (.agg #[.int .i64 q.kind, .int .i64 q.n, .string q.s, .string q.stage, .int .i64 q.field])).run Tryz.prog w = .ok (partEq p q) w := fun w => run_eqIn_part w _ _ _ _ _ _ _ _ _ _
        generalize partEq p q = pe at *
        obtain ⟨pk, pn, ps, pst, pf⟩ := p
        obtain ⟨qk, qn, qs, qst, qf⟩ := q
        simp only at c0 c1 c2 c3 c4 f0 f1 f2 f3 f4 EQ
        clear hsl hsl' hp hq
        cases pe with
        | true =>
          go_wp2_with fail
          repeat (go_quiet (fail); try go_wp2_with fail)
          exact ⟨⟨k + 1, by omega, by simp, Lib.hid (HST.out.trans (Bool.true_and _)), hk.drewN _⟩, by simp only [intOf]; omega⟩
        | false =>
          go_wp2_with fail
          repeat (go_quiet (fail); try go_wp2_with fail)
          all_goals go_returns
          all_goals exact ⟨congrArg (fun z => Ending.returned (.bool z)) (HST.out.trans (Bool.false_and _)).symm, hk.drewN _⟩
      · have hke : k = n := by omega
        have d1 : decide ((k : Int) < (n : Int)) = false := by simp; omega
        have hE : sameM (l.drop k) (l'.drop k) = true := by rw [List.drop_eq_nil_of_le (by rw [HN.out.1]; omega), List.drop_eq_nil_of_le (by rw [HN.out.2]; omega)]; rfl
        have HE := Lib.hid (hI.out.trans hE)
        clear hE
        go_wp2_with fail
        go_returns
        exact ⟨congrArg (fun z => Ending.returned (.bool z)) HE.out.symm, hk⟩
  · rw [sameM_len hnn]
    have d1 : ((l.length : Int) == (l'.length : Int)) = false := by rw [beq_eq_false_iff_ne]; omega
    have d2 : ((l.length : Int) != (l'.length : Int)) = true := by rw [bne_iff_ne]; omega
    generalize l.length = n at *
    generalize l'.length = n' at *
    clear h2 h2'
    go_enter Tryz.func16, Tryz.ntmps16
    go_wp2_with fail
    go_returns
    exact ⟨rfl, Keeps.refl [] w⟩

end Go.Proofs.YtefcmijobbgpbaaGreatDoor
