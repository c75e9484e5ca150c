/- Stages. Conditions: those of each theorem. -/
import Derived.Test.YtefcmijobbgpbaaGreatDoorExJ
import Derived.Test.YtefcmijobbgpbaaGreatDoorExK
namespace Go.Proofs.YtefcmijobbgpbaaGreatDoor
open Go.RowKit

theorem own_strs {w : World} {base cp n : Nat} {ao : Option Addr} {L : List ByteArray} (h : w.ownsRow base 9 1 (.slice ao n cp) n (L.map Value.string)) (hn : L.length = n) : ArgStr w (.slice ao n cp) L := by
  subst hn
  refine ⟨ao, cp, rfl, fun h0 => ?_, fun hne => ?_⟩
  · rcases h.2 with ⟨he, h0'⟩ | ⟨g, cap, cur, he, _⟩
    · obtain ⟨_, _, e3⟩ := Value.slice.inj he
      exact ⟨e3, List.eq_nil_of_length_eq_zero h0'⟩
    · rw [h0] at he
      obtain ⟨e1, _, _⟩ := Value.slice.inj he
      cases e1
  · rcases h.2 with ⟨he, h0'⟩ | ⟨g, cap, cur, he, hb, hg, hnc, hm, _, _⟩
    · exact absurd (List.eq_nil_of_length_eq_zero h0') hne
    · cases he
      refine ⟨g, 0, rfl, fun j x hx => ?_, hnc, by unfold maxLen at hm; exact hm⟩
      have := h.cells rfl j (.string x) (by simp [hx])
      rw [addr_add] at this
      exact this

theorem stagesFrom_step {l : List PartR} {k : Nat} {p : PartR} (hp : l[k]? = some p) (out : List ByteArray) : stagesFrom (l.drop k) out = stagesFrom (l.drop (k + 1)) (if p.stage.data.toList = [] then out else if hasM out p.stage then out else out ++ [p.stage]) := by
  have hk : k < l.length := by
    rcases Nat.lt_or_ge k l.length with h | h
    · exact h
    · rw [List.getElem?_eq_none h] at hp; cases hp
  rw [List.drop_eq_getElem_cons hk]
  have e : l[k] = p := by rw [List.getElem?_eq_getElem hk] at hp; exact Option.some.inj hp
  rw [e]
  rfl

def StagesOut (B : Nat) (l : List PartR) (e : Ending) (w' : World) : Prop :=
  match wholeM l with
  | none => e = .returned (.tuple #[.slice none 0 0, .int .i64 110])
  | some _ => ∃ ao n cp, e = .returned (.tuple #[.slice ao n cp, .int .i64 0]) ∧ (stagesM l).length = n ∧ w'.ownsRow B 9 1 (.slice ao n cp) n ((stagesM l).map Value.string)

theorem StagesOut.none_form {B : Nat} {l : List PartR} {e : Ending} {w' : World} (h : StagesOut B l e w') (hw : wholeM l = none) : e = .returned (.tuple #[.slice none 0 0, .int .i64 110]) := by
  unfold StagesOut at h; rw [hw] at h; exact h
theorem StagesOut.some_form {B : Nat} {l : List PartR} {t : Ex} {e : Ending} {w' : World} (h : StagesOut B l e w') (hw : wholeM l = some t) : ∃ ao n cp, e = .returned (.tuple #[.slice ao n cp, .int .i64 0]) ∧ (stagesM l).length = n ∧ w'.ownsRow B 9 1 (.slice ao n cp) n ((stagesM l).map Value.string) := by
  unfold StagesOut at h; rw [hw] at h; exact h

set_option maxHeartbeats 4000000 in
set_option maxRecDepth 100000 in
theorem stages_any (l : List PartR) (v : Value) (w : World) (hG : GlobX w) (hok : ∀ x ∈ l, x.ok) (hA : ArgPart w v l) :
    Calls Tryz.prog 13 #[v] w fun e w' => StagesOut w.heap.size l e w' ∧ Keeps [] w w' := by
  have hk0 := Keeps.refl [] w
  have HW := Lib.hid (whole_any l v w hG hok hA)
  have HC := fun (L : List ByteArray) (v : Value) (s : ByteArray) (w : World) (h : ArgStr w v L) => Lib.hid (contains_any L v _ s rfl w h)
  have HA := Lib.hid hA
  obtain ⟨ao, cap, rfl, _, h2⟩ := hA
  have H2 := Lib.hid h2
  obtain ⟨n, hn⟩ : ∃ n, l.length = n := ⟨_, rfl⟩
  clear h2
  cases hw : wholeM l with
  | none =>
    rw [hw] at HW
    have HWM := Lib.hid hw
    clear hw
    rw [hn] at HW ⊢
    go_enter Tryz.func13, Tryz.ntmps13
    go_wp2_with (go_at_call 25; refine HW.out.mono ?_; rintro e w2 ⟨h, hk2⟩; have h := h.none_form; subst h)
    go_returns
    exact ⟨by unfold StagesOut; rw [HWM.out]; rfl, hk2⟩
  | some t =>
    rw [hw] at HW
    have hlen := (wholeM_parts hw).2
    have HWM := Lib.hid hw
    clear hw
    rw [hn] at HW ⊢
    rw [hn] at hlen
    have HN := Lib.hid hn
    clear hn
    go_enter Tryz.func13, Tryz.ntmps13
    go_wp2_with (go_at_call 25; refine HW.out.mono ?_; rintro e w2 ⟨h, hk2⟩; obtain ⟨O, a, h, hO, hB, hT⟩ := h.some_form; subst h; clear hO hT)
    go_loopw [4, 12] (fun v i wr => ∃ (k q : Nat) (ao' : Option Addr) (cp : Nat) (out : List ByteArray), k ≤ n ∧ q ≤ k ∧ i = .int .i64 k ∧ v = .slice ao' q cp ∧ Hid (out.length = q ∧ stagesM l = stagesFrom (l.drop k) out ∧ wr.ownsRow w.heap.size 9 1 (.slice ao' q cp) q (out.map Value.string)) ∧ Keeps [] w wr) (fun _ i _ => n - (intOf i).toNat)
    case atStart => exact ⟨0, 0, none, 0, [], Nat.zero_le _, Nat.le_refl _, rfl, rfl, Lib.hid ⟨rfl, rfl, rfl, .inl ⟨rfl, rfl⟩⟩, hk2⟩
    case round =>
      clear hk2
      obtain ⟨k, q, ao', cp, out, hkn, hqk, rfl, rfl, hst, hk⟩ := hrel
      by_cases hlt : k < n
      · have d1 : decide ((k : Int) < (n : Int)) = true := by simp; omega
        obtain ⟨p, hp⟩ : ∃ p, l[k]? = some p := ⟨l[k]'(by rw [HN.out]; omega), List.getElem?_eq_getElem _⟩
        obtain ⟨bk, o, rfl, hsl, hcl, hcr⟩ := H2.out (by intro e; rw [e] at hp; cases hp)
        rw [HN.out] at hcl
        obtain ⟨c0, c1, c2, c3, c4⟩ := hsl k p hp
        have c0 := hk.cell c0 (by simp)
        have c1 := hk.cell c1 (by simp)
        have c2 := hk.cell c2 (by simp)
        have c3 := hk.cell c3 (by simp)
        have c4 := hk.cell c4 (by simp)
        have HST := Lib.hid (stagesFrom_step hp out)
        obtain ⟨kd, pn, ps, st, f⟩ := p
        simp only at c0 c1 c2 c3 c4 HST
        have hk1 := hk.alloc (.cells #[.int .i64 kd, .int .i64 pn, .string ps, .string st, .int .i64 f] 58 (0, 0))
        have hr1 := (Keeps.refl [] wr).alloc (.cells #[.int .i64 kd, .int .i64 pn, .string ps, .string st, .int .i64 f] 58 (0, 0))
        have HArg := Lib.hid (own_strs (own_kept hst.out.2.2 hr1 (by simp)) hst.out.1)
        have HCo := HC out _ st _ HArg.out
        have hr2 := hr1.alloc (.cells #[.string st] 9 (0, 0))
        have hk2 := hk1.alloc (.cells #[.string st] 9 (0, 0))
        have hkb := hk2.size
        clear hsl hp HC hr1
        go_wp2_with (first
          | (go_at_call 30; refine HCo.out.mono ?_; rintro e w5 ⟨rfl, rfl⟩)
          | (at_builtin; refine list_append_any rtStr (by rfl) _ _ (by rfl) w.heap.size (.slice ao' q cp) q (out.map Value.string) (by rfl) (own_kept hst.out.2.2 hr2 (by simp)) _ 1 [.string st] (by rfl) (SlC.of_block (cs := #[.string st]) (t := 9) (fr := (0, 0)) (heap_top (k := wr.heap.size + 1) (by simp)) (by rfl)) (by simp [Value.oneCell']) (by omega) (by unfold maxLen; omega) hkb ?_; intro ao1 cp1 w6 hown1 hgrow hat hnil; have hk3 := hk2.grown hgrow (fun k h => .inr (own_ge hst.out.2.2 h))))
        all_goals clear HCo c0 c1 c2 c3 c4 d1
        · have hif : (if st.data.toList = [] then out else if hasM out st then out else out ++ [st]) = out := by rw [← ByteArray.toList_eq]; simp_all
          exact ⟨⟨k + 1, q, ao', cp, out, by omega, by omega, by simp, rfl, Lib.hid ⟨hst.out.1, hst.out.2.1.trans (HST.out.trans (by rw [hif])), own_kept hst.out.2.2 ((Keeps.refl [] wr).alloc _) (by simp)⟩, hk1⟩, by simp only [intOf]; omega⟩
        · have hif : (if st.data.toList = [] then out else if hasM out st then out else out ++ [st]) = out ++ [st] := by rw [← ByteArray.toList_eq]; simp_all
          exact ⟨⟨k + 1, q + 1, ao1, cp1, out ++ [st], by omega, by omega, by simp, rfl, Lib.hid ⟨by simp [hst.out.1], hst.out.2.1.trans (HST.out.trans (by rw [hif])), by simpa using hown1⟩, hk3⟩, by simp only [intOf]; omega⟩
        · have hif : (if st.data.toList = [] then out else if hasM out st then out else out ++ [st]) = out := by rw [← ByteArray.toList_eq]; simp_all
          exact ⟨⟨k + 1, q, ao', cp, out, by omega, by omega, by simp, rfl, Lib.hid ⟨hst.out.1, hst.out.2.1.trans (HST.out.trans (by rw [hif])), own_kept hst.out.2.2 ((Keeps.refl [] wr).alloc _) (by simp)⟩, hk1⟩, by simp only [intOf]; omega⟩
      · have d1 : decide ((k : Int) < (n : Int)) = false := by simp; omega
        have hE : stagesM l = out := by rw [hst.out.2.1, show k = n by omega, ← HN.out]; simp [stagesFrom]
        have HE := Lib.hid hE
        clear hE
        go_wp2_with fail
        go_returns
        refine ⟨?_, hk⟩
        unfold StagesOut
        rw [HWM.out]
        exact ⟨ao', q, cp, rfl, by rw [HE.out]; exact hst.out.1, by rw [HE.out]; exact hst.out.2.2⟩

end Go.Proofs.YtefcmijobbgpbaaGreatDoor
