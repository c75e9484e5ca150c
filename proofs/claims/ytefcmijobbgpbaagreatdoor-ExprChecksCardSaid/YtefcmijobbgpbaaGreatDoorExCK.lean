/- ExprChecks, walked. Conditions: those of each theorem. -/
import Derived.Test.YtefcmijobbgpbaaGreatDoorExWG
import Derived.Test.YtefcmijobbgpbaaGreatDoorExEE
import Derived.Test.YtefcmijobbgpbaaGreatDoorExBB
import Derived.Test.YtefcmijobbgpbaaGreatDoorExS
namespace Go.Proofs.YtefcmijobbgpbaaGreatDoor
open Go.RowKit

theorem partsRow_size (l : List PartR) : (partsRow l).length = l.length * 5 := by
  induction l with
  | nil => rfl
  | cons p l ih => rw [partsRow_one, List.length_append, ih]; simp [partRow]; omega

theorem PartSl.rowAt {w : World} {bk o : Nat} {l : List PartR} (h : PartSl w bk o l) (j : Nat) (u : Value) (hu : (partsRow l)[j]? = some u) : w.cell? ((⟨bk, o, none⟩ : Addr).add j) = some u := by
  have hj : j < l.length * 5 := by
    rcases Nat.lt_or_ge j (l.length * 5) with h | h
    · exact h
    · rw [List.getElem?_eq_none (by rw [partsRow_size]; exact h)] at hu; cases hu
  have hq : j / 5 < l.length := by omega
  have hx : l[j / 5]? = some l[j / 5] := List.getElem?_eq_getElem hq
  have h2 := partsRow_at l (j / 5) _ hx
  have h3 := h (j / 5) _ hx
  rw [addr_add]
  have hc : j % 5 = 0 ∨ j % 5 = 1 ∨ j % 5 = 2 ∨ j % 5 = 3 ∨ j % 5 = 4 := by omega
  rcases hc with hc | hc | hc | hc | hc
  · have e : j = j / 5 * 5 := by omega
    rw [e] at hu ⊢
    rw [h2.1] at hu
    cases hu
    exact h3.1
  · have e : j = j / 5 * 5 + 1 := by omega
    rw [e] at hu ⊢
    rw [h2.2.1] at hu
    cases hu
    exact h3.2.1
  · have e : j = j / 5 * 5 + 2 := by omega
    rw [e] at hu ⊢
    rw [h2.2.2.1] at hu
    cases hu
    exact h3.2.2.1
  · have e : j = j / 5 * 5 + 3 := by omega
    rw [e] at hu ⊢
    rw [h2.2.2.2.1] at hu
    cases hu
    exact h3.2.2.2.1
  · have e : j = j / 5 * 5 + 4 := by omega
    rw [e] at hu ⊢
    rw [h2.2.2.2.2] at hu
    cases hu
    exact h3.2.2.2.2

theorem ArgPart.cells {w : World} {v : Value} {l : List PartR} (h : ArgPart w v l) : SlC w v l.length 5 (partsRow l) := by
  obtain ⟨ao, cap, rfl, h1, h2⟩ := h
  refine ⟨ao, cap, rfl, partsRow_size l, fun h => ⟨by rw [(h1 h).2]; rfl, (h1 h).1⟩, fun b hb j u hu => ?_⟩
  by_cases hne : l = []
  · subst hne; cases hu
  · obtain ⟨bk, o, rfl, h3, h4⟩ := h2 hne
    cases hb
    exact h3.rowAt j u hu

/-- What Stages tells, of either: the texts, and whether it may be. -/
theorem StagesOut.arg {B : Nat} {l : List PartR} {e : Ending} {w' : World} (h : StagesOut B l e w') : ∃ v, e = .returned (.tuple #[v, .int .i64 (checkE l)]) ∧ ArgStr w' v (if checkE l = 0 then stagesM l else []) := by
  unfold checkE
  cases hw : wholeM l with
  | none =>
    have h1 := h.none_form hw
    exact ⟨_, h1, ⟨none, 0, rfl, fun _ => ⟨rfl, rfl⟩, fun h => absurd rfl h⟩⟩
  | some t =>
    obtain ⟨ao, n, cp, h1, h2, h3⟩ := h.some_form hw
    exact ⟨_, h1, own_strs h3 h2⟩

set_option maxHeartbeats 8000000 in
set_option maxRecDepth 100000 in
theorem exprChecks_any (x : List PartR) (v : Value) (w : World) (hG : GlobX w) (hok : ∀ p ∈ x, p.ok) (hA : ArgPart w v x) (hxl : x.length * 56 ≤ 140737488355328) :
    Calls Tryz.prog 3 #[v] w fun e w' => e = .returned (.bool true) ∧ Keeps [] w w' := by
  have hk0 := Keeps.refl [] w
  have HG := Lib.hid hG
  have HA := Lib.hid hA
  have HWk := fun w hG => Lib.hid (works_x w hG)
  have HC := fun v w hG hA => Lib.hid (check_any x v w hG hok hA)
  have HRC := fun v w hA => Lib.hid (refCheck_any x v w hok hA (by omega))
  have HW := fun v w hG hA => Lib.hid (write_any x v w hG hok hA)
  have HRW := fun v w hA => Lib.hid (refWrite_any x v w hok hA (by omega))
  have HS := fun v w hG hA => Lib.hid (stages_any x v w hG hok hA)
  have HRS := fun v w hA => Lib.hid (refStages_any x v w hok hA (by omega))
  have HST := fun L v v' w h h' hl => Lib.hid (sameTexts_any L v v' w h h' hl)
  have HSP := fun v v' w h h' => Lib.hid (same_parts x v v' w h h' (by omega))
  have HSL : Hid ((if checkE x = 0 then stagesM x else []).length ≤ 9223372036854775807) := Lib.hid (by
    have h1 := stagesFrom_len x []
    have h2 : stagesM x = stagesFrom x [] := rfl
    split
    · rw [h2]; simp only [List.length_nil] at h1; omega
    · simp)
  have HSa := fun B e w' (h : StagesOut B x e w') => h.arg
  have hslc := hA.cells
  obtain ⟨ao, cap, rfl, _, _⟩ := hA
  obtain ⟨n, hn⟩ : ∃ n, x.length = n := ⟨_, rfl⟩
  have HN := Lib.hid hn
  rw [hn] at HA hslc hxl ⊢
  have HSLC := Lib.hid hslc
  obtain ⟨SL, hSL⟩ : ∃ SL, (if checkE x = 0 then stagesM x else []) = SL := ⟨_, rfl⟩
  rw [hSL] at HSL HSa
  obtain ⟨ck, hck⟩ : ∃ ck, checkK x = ck := ⟨_, rfl⟩
  obtain ⟨ce, hce⟩ : ∃ ce, checkE x = ce := ⟨_, rfl⟩
  obtain ⟨js, hjs⟩ : ∃ js, joinS (writeM x) = js := ⟨_, rfl⟩
  obtain ⟨jc, hjc⟩ : ∃ jc, joinC (writeM x) = jc := ⟨_, rfl⟩
  rw [hck, hce] at HC HRC
  rw [hce] at HSa
  rw [hjs, hjc] at HW HRW
  clear hslc hG hok hn hSL hck hce hjs hjc
  go_enter Tryz.func3, Tryz.ntmps3
  go_wp2_with (at_builtin; refine list_append_any rtPart (by rfl) _ _ (by rfl) w.heap.size (.slice (some ⟨w.heap.size, 0, none⟩) 0 0) 0 [] (by rfl) (own_new w #[] 58 5 0 rfl (by decide)) _ n (partsRow x) (by rfl) (HSLC.out.keep (hk0.alloc _) (by simp)) (partsRow_cell x) (by omega) (by unfold maxLen; omega) (hk0.alloc _).size ?_; intro ao1 cp1 w1 hown hgrow hat hnil; simp only [Nat.zero_add, List.nil_append] at hown hgrow ⊢; have hk1 := (hk0.alloc _).grown hgrow (fun k h => .inr (by cases h; exact Nat.le_refl _)); have HO := Lib.hid (own_parts hown HN.out); clear hown hgrow hat hnil)
  refine (HC _ _ (HG.out.keep hk1) HO.out).out.mono ?_
  rintro e w2 ⟨rfl, hk2⟩
  have hk2' := hk1.then hk2
  go_wp2_with fail
  refine (HRC _ _ (HA.out.keep hk2')).out.mono ?_
  rintro e w3 ⟨rfl, hk3⟩
  have hk3' := hk2'.then hk3
  have ho3 := hk2.then hk3
  go_wp2_with fail
  refine (HW _ _ (HG.out.keep hk3') (HO.out.keep ho3)).out.mono ?_
  rintro e w4 ⟨rfl, hk4⟩
  have hk4' := hk3'.then hk4
  have ho4 := ho3.then hk4
  go_wp2_with fail
  refine (HRW _ _ (HA.out.keep hk4')).out.mono ?_
  rintro e w5 ⟨rfl, hk5⟩
  have hk5' := hk4'.then hk5
  have ho5 := ho4.then hk5
  go_wp2_with fail
  refine (HS _ _ (HG.out.keep hk5') (HO.out.keep ho5)).out.mono ?_
  rintro e w6 ⟨hs6, hk6⟩
  obtain ⟨v6, rfl, hA6⟩ := HSa _ _ _ hs6
  obtain ⟨ao6, cp6, rfl, _, _⟩ := hA6
  have HA6 : Hid (ArgStr w6 (.slice ao6 SL.length cp6) SL) := Lib.hid (by obtain ⟨v6, he, hA6⟩ := HSa _ _ _ hs6; cases he; exact hA6)
  have hk6' := hk5'.then hk6
  have ho6 := ho5.then hk6
  clear hs6
  go_wp2_with fail
  refine (HRS _ _ (HA.out.keep hk6')).out.mono ?_
  rintro e w7 ⟨hs7, hk7⟩
  obtain ⟨v7, rfl, hA7⟩ := HSa _ _ _ hs7
  obtain ⟨ao7, cp7, rfl, _, _⟩ := hA7
  have HA7 : Hid (ArgStr w7 (.slice ao7 SL.length cp7) SL) := Lib.hid (by obtain ⟨v7, he, hA7⟩ := HSa _ _ _ hs7; cases he; exact hA7)
  have hk7' := hk6'.then hk7
  have ho7 := ho6.then hk7
  have HSTx := HST SL _ _ w7 (HA6.out.keep hk7) HA7.out HSL.out
  have d1 : (js.toList == js.toList) = true := by simp
  have d2 : (ck == ck) = true := by simp
  have d3 : (ce == ce) = true := by simp
  have d4 : (jc == jc) = true := by simp
  clear hs7 HC HRC HW HRW HS HRS HSa HST hk2 hk3 hk4 hk5 hk6 hk2' hk3' hk4' hk5' hk6' ho3 ho4 ho5 ho6
  go_wp2_with fail
  refine HSTx.out.mono ?_
  rintro e w8 ⟨rfl, hk8⟩
  have hk8' := hk7'.then hk8
  go_wp2_with fail
  refine (HSP _ _ _ (HO.out.keep (ho7.then hk8)) (HA.out.keep hk8')).out.mono ?_
  rintro e w9 ⟨rfl, hk9⟩
  have hk9' := hk8'.then hk9
  go_wp2_with fail
  refine (HWk _ (HG.out.keep hk9')).out.mono ?_
  rintro e w10 ⟨rfl, hk10⟩
  go_wp2_with fail
  go_returns
  exact ⟨rfl, hk9'.then hk10⟩

end Go.Proofs.YtefcmijobbgpbaaGreatDoor
