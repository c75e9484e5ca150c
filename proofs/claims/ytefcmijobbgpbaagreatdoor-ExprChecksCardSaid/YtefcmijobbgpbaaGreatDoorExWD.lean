/- The document's Stages; texts held against each other. Conditions: those of each theorem. -/
import Derived.Test.YtefcmijobbgpbaaGreatDoorExWC
import Derived.Test.YtefcmijobbgpbaaGreatDoorExM
namespace Go.Proofs.YtefcmijobbgpbaaGreatDoor
open Go.RowKit

theorem idxIn_neg {s : ByteArray} : ∀ (L : List ByteArray) (k : Nat), (∀ x ∈ L, x.data.toList ≠ s.data.toList) → idxFrom s L k = -1
  | [], _, _ => rfl
  | x :: r, k, h => by
    rw [idxFrom, if_neg (h x (by simp))]
    exact idxIn_neg r (k + 1) fun y hy => h y (by simp [hy])

theorem idxIn_pos {s : ByteArray} : ∀ (L : List ByteArray) (k : Nat), (∃ x ∈ L, x.data.toList = s.data.toList) → (k : Int) ≤ idxFrom s L k
  | [], _, h => by obtain ⟨x, hx, _⟩ := h; cases hx
  | x :: r, k, h => by
    rw [idxFrom]
    split
    · exact Int.le_refl _
    · rename_i hne
      obtain ⟨y, hy, he⟩ := h
      rcases List.mem_cons.1 hy with rfl | hy
      · exact absurd he hne
      · have := idxIn_pos r (k + 1) ⟨y, hy, he⟩
        omega

theorem hasIn_true {L : List ByteArray} {s : ByteArray} (h : ∃ x ∈ L, x.data.toList = s.data.toList) : hasM L s = true := by
  have := idxIn_pos L 0 h
  simp only [hasM, decide_eq_true_eq]
  omega

theorem hasIn_not {L : List ByteArray} {s : ByteArray} (h : ∀ x ∈ L, x.data.toList ≠ s.data.toList) : hasM L s = false := by
  rw [hasM, idxIn_neg L 0 h]
  rfl

def knownM (L : List ByteArray) (s : ByteArray) : Bool := decide (s.data.toList = []) || L.any fun y => decide (y.data.toList = s.data.toList)

theorem any_hasM (L : List ByteArray) (s : ByteArray) : (L.any fun y => decide (y.data.toList = s.data.toList)) = hasM L s := by
  by_cases h : ∃ x ∈ L, x.data.toList = s.data.toList
  · rw [hasIn_true h]
    obtain ⟨x, hx, he⟩ := h
    simp only [List.any_eq_true, decide_eq_true_eq]
    exact ⟨x, hx, he⟩
  · rw [hasIn_not (fun x hx he => h ⟨x, hx, he⟩)]
    simp only [List.any_eq_false, decide_eq_true_eq]
    exact fun x hx he => h ⟨x, hx, he⟩

theorem known_step {L : List ByteArray} {j : Nat} {y : ByteArray} (hy : L[j]? = some y) (s : ByteArray) : knownM (L.take (j + 1)) s = (knownM (L.take j) s || decide (y.data.toList = s.data.toList)) := by
  unfold knownM
  rw [List.take_add_one, hy]
  simp [Bool.or_assoc]

theorem stages_next {l : List PartR} {k : Nat} {p : PartR} (hp : l[k]? = some p) (out : List ByteArray) : stagesFrom (l.drop k) out = stagesFrom (l.drop (k + 1)) (if knownM out p.stage then out else out ++ [p.stage]) := by
  rw [stagesFrom_step hp]
  congr 1
  unfold knownM
  rw [any_hasM]
  by_cases h : p.stage.data.toList = []
  · simp [h]
  · simp [h]

set_option maxHeartbeats 4000000 in
set_option maxRecDepth 100000 in
theorem refStages_any (l : List PartR) (v : Value) (w : World) (hok : ∀ x ∈ l, x.ok) (hA : ArgPart w v l) (hxl : l.length ≤ 9223372036854775807) :
    Calls Tryz.prog 14 #[v] w fun e w' => StagesOut w.heap.size l e w' ∧ Keeps [] w w' := by
  have HC := Lib.hid (refCheck_any l v w hok hA hxl)
  obtain ⟨ao, cap, rfl, _, h2⟩ := hA
  have H2 := Lib.hid h2
  clear h2
  cases hw : wholeM l with
  | none =>
    have he : checkK l = 0 ∧ checkE l = 110 := by unfold checkK checkE; rw [hw]; exact ⟨rfl, rfl⟩
    rw [he.1, he.2] at HC
    have HWM := Lib.hid hw
    obtain ⟨n, hn⟩ : ∃ n, l.length = n := ⟨_, rfl⟩
    rw [hn] at HC ⊢
    clear hw he hn
    go_enter Tryz.func14, Tryz.ntmps14
    go_wp2_with (go_at_call 10; refine HC.out.mono ?_; rintro e w2 ⟨rfl, hk2⟩)
    go_returns
    exact ⟨by unfold StagesOut; rw [HWM.out]; rfl, hk2⟩
  | some t =>
    have he : checkE l = 0 := by unfold checkE; rw [hw]
    have hlen := (wholeM_parts hw).2
    rw [he] at HC
    have HWM := Lib.hid hw
    obtain ⟨n, hn⟩ : ∃ n, l.length = n := ⟨_, rfl⟩
    rw [hn] at HC hlen ⊢
    have HN := Lib.hid hn
    generalize checkK l = ck at *
    clear hw he hn
    go_enter Tryz.func14, Tryz.ntmps14
    go_wp2_with (go_at_call 10; refine HC.out.mono ?_; rintro e w2 ⟨rfl, hk2⟩)
    go_loopw [6, 7] (fun v i wr => ∃ (k q : Nat) (ao' : Option Addr) (cp : Nat) (out : List ByteArray), k ≤ n ∧ q ≤ k ∧ i = .int .i64 k ∧ v = .slice ao' q cp ∧ Hid (out.length = q ∧ stagesM l = stagesFrom (l.drop k) out ∧ wr.ownsRow w.heap.size 9 1 (.slice ao' q cp) q (out.map Value.string)) ∧ Keeps [] w wr) (fun _ i _ => n - (intOf i).toNat)
    case atStart => exact ⟨0, 0, none, 0, [], Nat.zero_le _, Nat.le_refl _, rfl, rfl, Lib.hid ⟨rfl, rfl, rfl, .inl ⟨rfl, rfl⟩⟩, hk2⟩
    case round =>
      clear hk2 HC
      obtain ⟨k, q, ao', cp, out, hkn, hqk, rfl, rfl, hst, hk⟩ := hrel
      by_cases hlt : k < n
      · have d1 : decide ((k : Int) < (n : Int)) = true := by simp; omega
        obtain ⟨p, hp⟩ : ∃ p, l[k]? = some p := ⟨l[k]'(by rw [HN.out]; omega), List.getElem?_eq_getElem _⟩
        obtain ⟨bk, o, hao, hsl, hcl, hcr⟩ := H2.out (by intro e; rw [e] at hp; cases hp)
        subst hao
        rw [HN.out] at hcl
        obtain ⟨_, _, _, c3, _⟩ := hsl k p hp
        have c3 := hk.cell c3 (by simp)
        have b0 : (0 : Int) ≤ (k : Int) := by omega
        have b1 : (k : Int) < (n : Int) := by omega
        have HST := Lib.hid (stages_next hp out)
        obtain ⟨kd, pn, ps, st, f⟩ := p
        simp only at c3 HST
        have HArg := Lib.hid (own_strs hst.out.2.2 hst.out.1)
        have HC3 := Lib.hid c3
        clear hsl hp
        have hemp : st.toList.isEmpty = knownM (out.take 0) st := by
          unfold knownM
          rw [ByteArray.toList_eq, List.take_zero, List.any_nil, Bool.or_false]
          cases st.data.toList <;> rfl
        have HEM := Lib.hid hemp
        clear hemp
        go_wp2_with fail
        go_loopw [8, 9] (fun kv i wq => ∃ j : Nat, j ≤ q ∧ i = .int .i64 j ∧ kv = .bool (knownM (out.take j) st) ∧ Keeps [] wr wq) (fun _ i _ => q - (intOf i).toNat)
        case atStart => exact ⟨0, Nat.zero_le _, rfl, congrArg Value.bool HEM.out, Keeps.refl [] wr⟩
        case round =>
          obtain ⟨W1, rfl⟩ : ∃ W1, W1 = wr := ⟨_, rfl⟩
          obtain ⟨j, hjq, rfl, rfl, hq⟩ := hrel
          by_cases hlt2 : j < q
          · have d2 : decide ((j : Int) < (q : Int)) = true := by simp; omega
            have b2 : (0 : Int) ≤ (j : Int) := by omega
            have b3 : (j : Int) < (q : Int) := by omega
            obtain ⟨y, hy⟩ : ∃ y, out[j]? = some y := ⟨out[j]'(by rw [hst.out.1]; omega), List.getElem?_eq_getElem _⟩
            obtain ⟨aoS, cpS, hvS, _, hS⟩ := HArg.out
            obtain ⟨bs, os, haoS, hslS, _, _⟩ := hS (by intro e; rw [e] at hy; cases hy)
            obtain ⟨rfl, _, rfl⟩ := Value.slice.inj hvS
            subst haoS
            have y0 := hq.cell (hslS j y hy) (by simp)
            have c3 := hq.cell HC3.out (by simp)
            have HKS := Lib.hid (known_step hy st)
            clear hvS hS hslS hy
            obtain ⟨kb, hkb⟩ : ∃ kb, knownM (out.take j) st = kb := ⟨_, rfl⟩
            have HKB := Lib.hid hkb
            rw [hkb]
            clear hkb
            cases kb with
            | true =>
              go_wp2_with fail
              repeat (go_quiet (fail); try go_wp2_with fail)
              refine ⟨⟨j + 1, by omega, by simp, ?_, hq.drewN _⟩, by simp only [intOf]; omega⟩
              rw [HKS.out, HKB.out]
              rfl
            | false =>
              go_wp2_with fail
              repeat (go_quiet (fail); try go_wp2_with fail)
              refine ⟨⟨j + 1, by omega, by simp, ?_, hq.drewN _⟩, by simp only [intOf]; omega⟩
              rw [HKS.out, HKB.out]
              refine congrArg Value.bool ?_
              rw [Bool.false_or, ByteArray.toList_eq, ByteArray.toList_eq, Bool.eq_iff_iff]
              simp
          · have d2 : decide ((j : Int) < (q : Int)) = false := by simp; omega
            have hjq2 : out.take j = out := by rw [show j = q by omega, ← hst.out.1]; simp
            rw [hjq2]
            have HAr := Lib.hid (own_kept hst.out.2.2 hq (by simp))
            obtain ⟨kb, hkb⟩ : ∃ kb, knownM out st = kb := ⟨_, rfl⟩
            have HN2 := Lib.hid (hst.out.2.1.trans HST.out)
            have HL1 := Lib.hid hst.out.1
            have hk2 := hk.then hq
            have c3 := hq.cell HC3.out (by simp)
            rw [hkb] at HN2 ⊢
            clear hkb hst HST hjq2 HEM
            cases kb with
            | true =>
              go_wp2_with fail
              exact ⟨⟨k + 1, q, ao', cp, out, by omega, by omega, by simp, rfl, Lib.hid ⟨HL1.out, HN2.out, HAr.out⟩, hk2⟩, by simp only [intOf]; omega⟩
            | false =>
              go_wp2_with (at_builtin; refine list_append_any rtStr (by rfl) _ _ (by rfl) w.heap.size (.slice ao' q cp) q (out.map Value.string) (by rfl) (own_kept HAr.out ((Keeps.refl [] _).alloc _) (by simp)) _ 1 [.string st] (by rfl) (SlC.of_block (cs := #[.string st]) (t := 9) (fr := (0, 0)) (heap_alloc_new _ _) (by rfl)) (by simp [Value.oneCell']) (by omega) (by unfold maxLen; omega) (hk2.alloc _).size ?_; intro ao1 cp1 w6 hown1 hgrow hat hnil; have hk3 := (hk2.alloc _).grown hgrow (fun k h => .inr (own_ge HAr.out h)))
              exact ⟨⟨k + 1, q + 1, ao1, cp1, out ++ [st], by omega, by omega, by simp, rfl, Lib.hid ⟨by simp [HL1.out], HN2.out, by simpa using hown1⟩, hk3⟩, by simp only [intOf]; omega⟩
      · have d1 : decide ((k : Int) < (n : Int)) = false := by simp; omega
        have hE : stagesM l = out := by rw [hst.out.2.1, show k = n by omega, ← HN.out]; simp [stagesFrom]
        have HE := Lib.hid hE
        clear hE
        go_wp2_with fail
        go_returns
        refine ⟨?_, hk⟩
        unfold StagesOut
        rw [HWM.out]
        exact ⟨ao', q, cp, rfl, by rw [HE.out]; exact hst.out.1, by rw [HE.out]; exact hst.out.2.2⟩

set_option maxHeartbeats 4000000 in
set_option maxRecDepth 100000 in
theorem sameTexts_any (L : List ByteArray) (v v' : Value) (w : World) (h : ArgStr w v L) (h' : ArgStr w v' L) (hl : L.length ≤ 9223372036854775807) :
    Calls Tryz.prog 15 #[v, v'] w fun e w' => e = .returned (.bool true) ∧ Keeps [] w w' := by
  obtain ⟨ao, cap, rfl, _, h2⟩ := h
  obtain ⟨ao', cap', rfl, _, h2'⟩ := h'
  obtain ⟨n, hn⟩ : ∃ n, L.length = n := ⟨_, rfl⟩
  rw [hn] at hl ⊢
  have HN := Lib.hid hn
  have H2 := Lib.hid h2
  have H2' := Lib.hid h2'
  clear hn h2 h2'
  go_enter Tryz.func15, Tryz.ntmps15
  go_wp2_with fail
  go_loopw [5] (fun i wr => ∃ k : Nat, k ≤ n ∧ i = .int .i64 k ∧ Keeps [] w wr) (fun i _ => n - (intOf i).toNat)
  case atStart => exact ⟨0, Nat.zero_le _, rfl, Keeps.refl [] w⟩
  case round =>
    obtain ⟨k, hkn, rfl, hk⟩ := hrel
    by_cases hlt : k < n
    · have d1 : decide ((k : Int) < (n : Int)) = true := by simp; omega
      obtain ⟨p, hp⟩ : ∃ p, L[k]? = some p := ⟨L[k]'(by rw [HN.out]; omega), List.getElem?_eq_getElem _⟩
      have hne : L ≠ [] := by intro e; rw [e] at hp; cases hp
      obtain ⟨bk, o, hao, hsl, hcl, hcr⟩ := H2.out hne
      obtain ⟨bk', o', hao', hsl', hcl', hcr'⟩ := H2'.out hne
      subst hao
      subst hao'
      have c0 := hk.cell (hsl k p hp) (by simp)
      have f0 := hk.cell (hsl' k p hp) (by simp)
      have bk0 : (0 : Int) ≤ (k : Int) := by omega
      have bk1 : (k : Int) < (n : Int) := by omega
      clear hsl hsl' hp hne
      go_wp2_with fail
      repeat (go_quiet (fail); try go_wp2_with fail)
      exact ⟨⟨k + 1, by omega, by simp, hk.drewN _⟩, by simp only [intOf]; omega⟩
    · have hke : k = n := by omega
      have d1 : decide ((k : Int) < (n : Int)) = false := by simp; omega
      go_wp2_with fail
      go_returns
      exact ⟨rfl, hk⟩

end Go.Proofs.YtefcmijobbgpbaaGreatDoor
