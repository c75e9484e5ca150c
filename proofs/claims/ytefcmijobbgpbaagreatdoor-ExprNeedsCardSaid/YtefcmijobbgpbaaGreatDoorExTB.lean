/- The closure of ExprTruths that joins parts; whole. Conditions: those of each theorem. -/
import Derived.Test.YtefcmijobbgpbaaGreatDoorExTA
import Derived.Test.YtefcmijobbgpbaaGreatDoorExEE
import Derived.Test.YtefcmijobbgpbaaGreatDoorExBB
namespace Go.Proofs.YtefcmijobbgpbaaGreatDoor
open Go.RowKit

theorem partsRow_len (l : List PartR) : (partsRow l).length = l.length * 5 := by
  induction l with
  | nil => rfl
  | cons p l ih => rw [partsRow_one, List.length_append, ih]; simp [partRow]; omega

theorem PartSl.row {w : World} {bk o : Nat} {l : List PartR} (h : PartSl w bk o l) (j : Nat) (u : Value) (hu : (partsRow l)[j]? = some u) : w.cell? ((⟨bk, o, none⟩ : Addr).add j) = some u := by
  have hj : j < l.length * 5 := by
    rcases Nat.lt_or_ge j (l.length * 5) with h | h
    · exact h
    · rw [List.getElem?_eq_none (by rw [partsRow_len]; exact h)] at hu; cases hu
  have hq : j / 5 < l.length := by omega
  have hx : l[j / 5]? = some l[j / 5] := List.getElem?_eq_getElem hq
  have h2 := partsRow_at l (j / 5) _ hx
  have h3 := h (j / 5) _ hx
  rw [addr_add]
  have hc : j % 5 = 0 ∨ j % 5 = 1 ∨ j % 5 = 2 ∨ j % 5 = 3 ∨ j % 5 = 4 := by omega
  rcases hc with hc | hc | hc | hc | hc
  · have e : j = j / 5 * 5 := by omega
    rw [e] at hu ⊢
    rw [h2.1] at hu
    cases hu
    exact h3.1
  · have e : j = j / 5 * 5 + 1 := by omega
    rw [e] at hu ⊢
    rw [h2.2.1] at hu
    cases hu
    exact h3.2.1
  · have e : j = j / 5 * 5 + 2 := by omega
    rw [e] at hu ⊢
    rw [h2.2.2.1] at hu
    cases hu
    exact h3.2.2.1
  · have e : j = j / 5 * 5 + 3 := by omega
    rw [e] at hu ⊢
    rw [h2.2.2.2.1] at hu
    cases hu
    exact h3.2.2.2.1
  · have e : j = j / 5 * 5 + 4 := by omega
    rw [e] at hu ⊢
    rw [h2.2.2.2.2] at hu
    cases hu
    exact h3.2.2.2.2

theorem ArgPart.slc {w : World} {v : Value} {l : List PartR} (h : ArgPart w v l) : SlC w v l.length 5 (partsRow l) := by
  obtain ⟨ao, cap, rfl, h1, h2⟩ := h
  refine ⟨ao, cap, rfl, partsRow_len l, fun h => ⟨by rw [(h1 h).2]; rfl, (h1 h).1⟩, fun b hb j u hu => ?_⟩
  by_cases hne : l = []
  · subst hne; cases hu
  · obtain ⟨bk, o, rfl, h3, h4⟩ := h2 hne
    cases hb
    exact h3.row j u hu

theorem flat_snoc {ls : List (List PartR)} {j : Nat} {l : List PartR} (h : ls[j]? = some l) : (ls.take (j + 1)).flatten = (ls.take j).flatten ++ l := by
  rw [List.take_add_one, h]
  simp

theorem flat_len : ∀ {ls : List (List PartR)} (j : Nat), (ls.take j).flatten.length ≤ ls.flatten.length
  | [], j => by simp
  | l :: ls, 0 => by simp
  | l :: ls, j + 1 => by
    have := flat_len (ls := ls) j
    simp only [List.take_succ_cons, List.flatten_cons, List.length_append]
    omega

def JoinedOut (B : Nat) (x : List PartR) (e : Ending) (w' : World) : Prop := ∃ ao q cp, e = .returned (.slice ao q cp) ∧ x.length = q ∧ w'.ownsRow B 58 5 (.slice ao q cp) q (partsRow x)

theorem JoinedOut.arg {B : Nat} {x : List PartR} {e : Ending} {w' : World} (h : JoinedOut B x e w') : ∃ v, e = .returned v ∧ ArgPart w' v x := by
  obtain ⟨ao, q, cp, rfl, hq, ho⟩ := h
  exact ⟨_, rfl, own_parts ho hq⟩

set_option maxHeartbeats 4000000 in
set_option maxRecDepth 100000 in
theorem joined_any (op : Int) (ls : List (List PartR)) (vs : List Value) (B n : Nat) (w : World) (hn : ls.length = n) (hv : vs.length = n) (hB : w.heap[B]? = some (.cells vs.toArray 22 (0, 0))) (hlt : n ≤ 100) (hfl : ls.flatten.length ≤ 1000)
    (hA : ∀ (j : Nat) (v : Value) (l : List PartR), vs[j]? = some v → ls[j]? = some l → ArgPart w v l) :
    Calls Tryz.prog 24 #[.int .i64 op, .slice (some ⟨B, 0, none⟩) n n] w fun e w' => JoinedOut w.heap.size (opP op :: ls.flatten) e w' ∧ Keeps [] w w' := by
  have hk0 := Keeps.refl [] w
  have HA := Lib.hid hA
  have HN := Lib.hid (And.intro hn hv)
  have HB := Lib.hid hB
  have HFL := Lib.hid hfl
  clear hA hn hv hB hfl
  go_enter Tryz.func24, Tryz.ntmps24
  go_wp2_with fail
  have hk1 := hk0.alloc (.cells #[.int .i64 op, .int .i64 0, .string ⟨#[]⟩, .string ⟨#[]⟩, .int .i64 0] 58 (0, 0))
  have ho1 := own_new w #[.int .i64 op, .int .i64 0, .string ⟨#[]⟩, .string ⟨#[]⟩, .int .i64 0] 58 5 1 rfl (by decide)
  go_loopw [5, 13] (fun v i wr => ∃ (j q : Nat) (ao : Option Addr) (cp : Nat), j ≤ n ∧ i = .int .i64 j ∧ v = .slice ao q cp ∧ Hid (1 + (ls.take j).flatten.length = q ∧ wr.ownsRow w.heap.size 58 5 (.slice ao q cp) q (partsRow (opP op :: (ls.take j).flatten))) ∧ Keeps [] w wr) (fun _ i _ => n - (intOf i).toNat)
  case atStart => exact ⟨0, 1, _, _, Nat.zero_le _, rfl, rfl, Lib.hid ⟨by simp, ho1⟩, hk1⟩
  case round =>
    clear hk1 ho1
    obtain ⟨j, q, ao, cp, hjn, rfl, rfl, hI, hk⟩ := hrel
    by_cases hlt' : j < n
    · have d1 : decide ((j : Int) < (n : Int)) = true := by simp; omega
      have b0 : (0 : Int) ≤ (j : Int) := by omega
      have b1 : (j : Int) < (n : Int) := by omega
      obtain ⟨v, hv⟩ : ∃ v, vs[j]? = some v := ⟨vs[j]'(by rw [HN.out.2]; omega), List.getElem?_eq_getElem _⟩
      obtain ⟨l, hl⟩ : ∃ l, ls[j]? = some l := ⟨ls[j]'(by rw [HN.out.1]; omega), List.getElem?_eq_getElem _⟩
      have c0 : wr.cell? ⟨B, 0 + j * 1, none⟩ = some v := by
        have := hk.heap HB.out (by simp)
        simp only [World.cell?, this]
        simpa using hv
      have HS := Lib.hid ((HA.out j v l hv hl).keep hk)
      obtain ⟨ao', cp', hve, _, _⟩ := HS.out
      subst hve
      have HFS := Lib.hid (flat_snoc hl)
      have hsz : q + l.length ≤ 1001 := by
        have h1 := flat_len (ls := ls) (j + 1)
        rw [HFS.out] at h1
        have h2 := hI.out.1
        have h3 := HFL.out
        simp only [List.length_append] at h1
        omega
      clear hv hl
      simp only [Nat.zero_add, Nat.mul_one] at c0
      have hsl := HS.out.slc
      go_wp2_with (at_builtin; refine list_append_any rtPart (by rfl) _ _ (by rfl) w.heap.size (.slice ao q cp) q (partsRow (opP op :: (ls.take j).flatten)) (by rfl) hI.out.2 _ l.length (partsRow l) (by rfl) hsl (partsRow_cell l) (by omega) (by unfold maxLen; omega) hk.size ?_; intro ao1 cp1 w6 hown1 hgrow hat hnil; have hk3 := hk.grown hgrow (fun k h => .inr (own_ge hI.out.2 h)))
      refine ⟨⟨j + 1, q + l.length, ao1, cp1, by omega, by simp, rfl, Lib.hid ⟨?_, ?_⟩, hk3⟩, by simp only [intOf]; omega⟩
      · rw [HFS.out, List.length_append]
        have := hI.out.1
        omega
      · rw [HFS.out, ← List.cons_append, partsRow_app]
        exact hown1
    · have hje : j = n := by omega
      have d1 : decide ((j : Int) < (n : Int)) = false := by simp; omega
      go_wp2_with fail
      go_returns
      have hx : ls.take j = ls := by rw [hje, ← HN.out.1]; simp
      have h1 := hI.out.1
      have h2 := hI.out.2
      rw [hx] at h1 h2
      exact ⟨⟨ao, q, cp, rfl, by simp only [List.length_cons]; omega, h2⟩, hk⟩

set_option maxHeartbeats 2000000 in
set_option maxRecDepth 100000 in
theorem wholeLaw_any (l : List PartR) (v : Value) (w : World) (hG : GlobX w) (hok : ∀ x ∈ l, x.ok) (hA : ArgPart w v l) :
    Calls Tryz.prog 23 #[v] w fun e w' => e = .returned (.bool (truthM l)) ∧ Keeps [] w w' := by
  have HC := Lib.hid (check_any l v w hG hok hA)
  obtain ⟨ao, cap, rfl, _, _⟩ := hA
  have hT : truthM l = (decide (checkE l = 0) && decide (checkK l = 3)) := rfl
  rw [hT]
  generalize checkE l = ce at *
  generalize checkK l = ck at *
  clear hT
  go_enter Tryz.func23, Tryz.ntmps23
  go_wp2_with (go_at_call 9; refine HC.out.mono ?_; rintro e w2 ⟨rfl, hk2⟩)
  all_goals go_returns
  all_goals simp_all
  all_goals (rw [Bool.eq_iff_iff]; simp)

end Go.Proofs.YtefcmijobbgpbaaGreatDoor
