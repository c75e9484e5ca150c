/- Expressions: what the code of chapter 11 computes (ExTA ExNA ExEE ExTB ExNB). Conditions: those of each theorem. -/
import Derived.Test.YtefcmijobbgpbaaGreatDoorExLL
import Derived.Test.YtefcmijobbgpbaaGreatDoorExC
import Derived.Test.YtefcmijobbgpbaaGreatDoorExBB

namespace Go.Proofs.YtefcmijobbgpbaaGreatDoor
open Go.RowKit

theorem growM_more : ∀ {d : Nat} {x r : List PartR} {t : Ex}, growM d x = some (t, r) → growM (d + 1) x = some (t, r)
  | 0, x, r, t, h => by simp [growM] at h
  | d + 1, [], r, t, h => by simp [growM] at h
  | d + 1, p :: x, r, t, h => by
    rw [growM] at h
    rw [growM]
    split at h
    · cases h
    · rename_i hm
      rw [if_neg hm]
      split at h
      · rename_i h3
        rw [if_pos h3]
        exact h
      · rename_i h3
        rw [if_neg h3]
        split at h
        · rename_i h13
          rw [if_pos h13]
          split at h
          · cases h
          · rename_i a x1 ha
            rw [growM_more ha]
            exact h
        · rename_i h13
          rw [if_neg h13]
          split at h
          · cases h
          · rename_i a x1 ha
            rw [growM_more ha]
            split at h
            · cases h
            · rename_i b x2 hb
              simp only [growM_more hb]
              exact h

theorem growM_app (z : List PartR) : ∀ {d : Nat} {x r : List PartR} {t : Ex}, growM d x = some (t, r) → growM d (x ++ z) = some (t, r ++ z)
  | 0, x, r, t, h => by simp [growM] at h
  | d + 1, [], r, t, h => by simp [growM] at h
  | d + 1, p :: x, r, t, h => by
    rw [growM] at h
    rw [List.cons_append, growM]
    split at h
    · cases h
    · rename_i hm
      rw [if_neg hm]
      split at h
      · rename_i h3
        rw [if_pos h3]
        cases h
        rfl
      · rename_i h3
        rw [if_neg h3]
        split at h
        · rename_i h13
          rw [if_pos h13]
          split at h
          · cases h
          · rename_i a x1 ha
            rw [growM_app z ha]
            split at h
            · rename_i hk
              cases h
              simp only [if_pos hk]
            · cases h
        · rename_i h13
          rw [if_neg h13]
          split at h
          · cases h
          · rename_i a x1 ha
            rw [growM_app z ha]
            split at h
            · cases h
            · rename_i b x2 hb
              simp only [growM_app z hb]
              split at h
              · rename_i hk
                cases h
                rw [if_pos hk]
              · cases h

theorem isM_opP {k : Int} (h : 4 ≤ k ∧ k ≤ 13) : isM (opP k) = true := by
  unfold isM opP
  simp only
  rw [if_neg (by omega), if_neg (by omega), if_neg (by omega)]
  simp [h.1, h.2]

theorem wholeM_neg {x : List PartR} {t a : Ex} (h : wholeM (opP 13 :: x) = some t) (ha : wholeM x = some a) : t = .neg (opP 13) a := by
  have h1 := wholeM_grow h
  have h2 := wholeM_grow ha
  rw [growM_neg (isM_opP (by omega)) rfl] at h1
  cases hb : growM 31 x with
  | none => rw [hb] at h1; cases h1
  | some q =>
    obtain ⟨b, x1⟩ := q
    rw [hb] at h1
    have h3 := growM_more hb
    simp only [negM] at h1
    split at h1
    · cases h1
      rw [h3] at h2
      cases h2
      rfl
    · cases h1

theorem wholeM_two {k : Int} (hk : 4 ≤ k ∧ k ≤ 12) {x y : List PartR} {t a b : Ex} (h : wholeM (opP k :: (x ++ y)) = some t) (ha : wholeM x = some a) (hb : wholeM y = some b) : t = .bin (opP k) a b := by
  have h1 := wholeM_grow h
  have h2 := growM_app y (wholeM_grow ha)
  have h3 := wholeM_grow hb
  rw [growM_bin (isM_opP (by omega)) (by simp only [opP]; omega) (by simp only [opP]; omega)] at h1
  cases ha' : growM 31 (x ++ y) with
  | none => rw [ha'] at h1; cases h1
  | some q =>
    obtain ⟨a', x1⟩ := q
    rw [ha'] at h1
    rw [growM_more ha'] at h2
    simp only [binM] at h1
    cases hb' : growM 31 x1 with
    | none => rw [hb'] at h1; cases h1
    | some q2 =>
      obtain ⟨b', x2⟩ := q2
      rw [hb'] at h1
      have h4 := growM_more hb'
      cases h2
      rw [List.nil_append, h3] at h4
      cases h4
      simp only [binM.bin2M] at h1
      split at h1
      · cases h1
        rfl
      · cases h1

theorem stagesFrom_app : ∀ (x y : List PartR) (out : List ByteArray), stagesFrom (x ++ y) out = stagesFrom y (stagesFrom x out)
  | [], _, _ => rfl
  | p :: x, y, out => by rw [List.cons_append, stagesFrom, stagesFrom, stagesFrom_app x y]

theorem missM_nil {L : List ByteArray} (h : missM [] L = false) : L = [] := by
  cases L with
  | nil => rfl
  | cons a r => simp [missM, missFrom, hasM, idxFrom] at h

theorem stages_neg {x : List PartR} (h : missM [] (stagesM x) = false) : missM [] (stagesM (opP 13 :: x)) = false := by
  have : stagesM (opP 13 :: x) = stagesM x := by simp [stagesM, stagesFrom, opP]
  rw [this]
  exact h

theorem stages_two {k : Int} {x y : List PartR} (h : missM [] (stagesM x) = false) (h' : missM [] (stagesM y) = false) : missM [] (stagesM (opP k :: (x ++ y))) = false := by
  have : stagesM (opP k :: (x ++ y)) = stagesFrom y (stagesM x) := by simp [stagesM, stagesFrom, opP, stagesFrom_app]
  rw [this, missM_nil h]
  exact h'

/-- A truth that may be. -/
def truthM (x : List PartR) : Bool := decide (checkE x = 0) && decide (checkK x = 3)

theorem truthM_some {x : List PartR} (h : truthM x = true) : ∃ t, wholeM x = some t ∧ t.kind = 3 := by
  unfold truthM checkE checkK at h
  cases hw : wholeM x with
  | none => rw [hw] at h; simp at h
  | some t => rw [hw] at h; exact ⟨t, rfl, by simpa using h⟩

theorem holds_truth {x : List PartR} {t : Ex} (ev : EvR) (hw : wholeM x = some t) (hk : t.kind = 3) : holdsC x [] [] = (if missM [] (stagesM x) = false then 0 else 5) ∧ (missM [] (stagesM x) = false → holdsB x ev [] [] = (t.val (getM ev [] [])).ok) := by
  refine ⟨?_, fun hm => ?_⟩
  · unfold holdsC
    rw [hw]
    simp only [if_pos hk]
    simp
  · unfold holdsB
    rw [hw]
    simp [hk, hm]

theorem holdsC_cases {x : List PartR} (h : truthM x = true) : (holdsC x [] [] = 0 ∧ missM [] (stagesM x) = false) ∨ holdsC x [] [] = 5 := by
  obtain ⟨t, hw, hk⟩ := truthM_some h
  rw [(holds_truth ⟨⟨#[]⟩, ⟨#[]⟩, 0, 0, 0, 0, ⟨#[]⟩⟩ hw hk).1]
  cases hm : missM [] (stagesM x) with
  | true => right; simp
  | false => left; simp

/-- Its not. -/
theorem truths_neg {x : List PartR} (ev : EvR) (hx : truthM x = true) (hz : truthM (opP 13 :: x) = true) (hm : missM [] (stagesM x) = false) :
    holdsB (opP 13 :: x) ev [] [] = (!holdsB x ev [] []) ∧ holdsC (opP 13 :: x) [] [] = 0 := by
  obtain ⟨a, ha, hka⟩ := truthM_some hx
  obtain ⟨t, ht, hkt⟩ := truthM_some hz
  have hm2 := stages_neg hm
  obtain ⟨h1, h2⟩ := holds_truth ev ht hkt
  rw [h1, h2 hm2, (holds_truth ev ha hka).2 hm, hm2, wholeM_neg ht ha]
  exact ⟨rfl, rfl⟩

/-- Two of them. -/
theorem truths_two {k : Int} (hk : k = 11 ∨ k = 12) {x y : List PartR} (ev : EvR) (hx : truthM x = true) (hy : truthM y = true) (hz : truthM (opP k :: (x ++ y)) = true) (hm : missM [] (stagesM x) = false) (hm' : missM [] (stagesM y) = false) :
    holdsB (opP k :: (x ++ y)) ev [] [] = (if k = 11 then holdsB x ev [] [] && holdsB y ev [] [] else holdsB x ev [] [] || holdsB y ev [] []) ∧ holdsC (opP k :: (x ++ y)) [] [] = 0 := by
  obtain ⟨a, ha, hka⟩ := truthM_some hx
  obtain ⟨b, hb, hkb⟩ := truthM_some hy
  obtain ⟨t, ht, hkt⟩ := truthM_some hz
  have hm2 := stages_two (k := k) hm hm'
  obtain ⟨h1, h2⟩ := holds_truth ev ht hkt
  rw [h1, h2 hm2, (holds_truth ev ha hka).2 hm, (holds_truth ev hb hkb).2 hm', hm2, wholeM_two (by omega) ht ha hb]
  refine ⟨?_, rfl⟩
  rcases hk with rfl | rfl
  · rfl
  · rfl

end Go.Proofs.YtefcmijobbgpbaaGreatDoor

namespace Go.Proofs.YtefcmijobbgpbaaGreatDoor
open Go.RowKit

def bZzz : ByteArray := ⟨#[122, 122, 122]⟩
def Apart (L : List ByteArray) : Prop := L.Pairwise fun a b => a.data.toList ≠ b.data.toList
def Full (L : List ByteArray) : Prop := ∀ s ∈ L, s.data.toList ≠ []

theorem idxFrom_neg {s : ByteArray} : ∀ (L : List ByteArray) (k : Nat), (∀ x ∈ L, x.data.toList ≠ s.data.toList) → idxFrom s L k = -1
  | [], _, _ => rfl
  | x :: r, k, h => by
    rw [idxFrom, if_neg (h x (by simp))]
    exact idxFrom_neg r (k + 1) fun y hy => h y (by simp [hy])

theorem idxFrom_pos {s : ByteArray} : ∀ (L : List ByteArray) (k : Nat), (∃ x ∈ L, x.data.toList = s.data.toList) → (k : Int) ≤ idxFrom s L k
  | [], _, h => by obtain ⟨x, hx, _⟩ := h; cases hx
  | x :: r, k, h => by
    rw [idxFrom]
    split
    · exact Int.le_refl _
    · rename_i hne
      obtain ⟨y, hy, he⟩ := h
      rcases List.mem_cons.1 hy with rfl | hy
      · exact absurd he hne
      · have := idxFrom_pos r (k + 1) ⟨y, hy, he⟩
        omega

theorem hasM_true {L : List ByteArray} {s : ByteArray} (h : ∃ x ∈ L, x.data.toList = s.data.toList) : hasM L s = true := by
  have := idxFrom_pos L 0 h
  simp only [hasM, decide_eq_true_eq]
  omega

theorem hasM_not {L : List ByteArray} {s : ByteArray} (h : ∀ x ∈ L, x.data.toList ≠ s.data.toList) : hasM L s = false := by
  rw [hasM, idxFrom_neg L 0 h]
  rfl

theorem hasM_out {L : List ByteArray} {s : ByteArray} (h : ¬ hasM L s = true) : ∀ x ∈ L, x.data.toList ≠ s.data.toList := fun x hx he => h (hasM_true ⟨x, hx, he⟩)

theorem stagesFrom_apart : ∀ (l : List PartR) (out : List ByteArray), Apart out → Full out → Apart (stagesFrom l out) ∧ Full (stagesFrom l out)
  | [], out, h1, h2 => ⟨h1, h2⟩
  | p :: r, out, h1, h2 => by
    rw [stagesFrom]
    split
    · exact stagesFrom_apart r out h1 h2
    · rename_i hne
      split
      · exact stagesFrom_apart r out h1 h2
      · rename_i hh
        refine stagesFrom_apart r _ ?_ ?_
        · refine List.pairwise_append.2 ⟨h1, by simp, fun a ha b hb => ?_⟩
          rw [List.mem_singleton] at hb
          rw [hb]
          exact hasM_out hh a ha
        · intro s hs
          rcases List.mem_append.1 hs with hs | hs
          · exact h2 s hs
          · rw [List.mem_singleton] at hs
            rw [hs]
            exact hne

theorem stagesM_apart (l : List PartR) : Apart (stagesM l) ∧ Full (stagesM l) := stagesFrom_apart l [] List.Pairwise.nil (fun _ h => by cases h)

theorem missM_of {names L : List ByteArray} (h : ∀ s ∈ L, hasM names s = true) : missM names L = false := by
  have hm : ∀ (L : List ByteArray) (k : Nat), (∀ s ∈ L, hasM names s = true) → missFrom names L k = -1 := by
    intro L
    induction L with
    | nil => intro k _; rfl
    | cons a r ih => intro k h; rw [missFrom, if_pos (h a (by simp))]; exact ih (k + 1) fun s hs => h s (by simp [hs])
  rw [missM, hm L 0 h]
  rfl

theorem missM_bad {names L : List ByteArray} {s : ByteArray} (hs : s ∈ L) (h : hasM names s = false) : missM names L = true := by
  rw [missM, decide_eq_true_eq]
  by_cases hl : missFrom names L 0 < 0
  · have := missFrom_all L 0 hl s hs
    rw [h] at this
    cases this
  · omega

theorem miss_self (L : List ByteArray) : missM L L = false := missM_of fun s hs => hasM_true ⟨s, hs, rfl⟩
theorem miss_more (z : ByteArray) (L : List ByteArray) : missM (z :: L) L = false := missM_of fun s hs => hasM_true ⟨s, by simp [hs], rfl⟩

theorem miss_less {L : List ByteArray} (h : Apart L) {i : Nat} (hi : i < L.length) : missM (L.take i ++ L.drop (i + 1)) L = true := by
  refine missM_bad (s := L[i]) (List.getElem_mem hi) (hasM_not fun x hx => ?_)
  rw [Apart, List.pairwise_iff_getElem] at h
  rcases List.mem_append.1 hx with hx | hx
  · obtain ⟨j, hj, rfl⟩ := List.mem_iff_getElem.1 hx
    rw [List.length_take] at hj
    rw [List.getElem_take]
    exact h j i (by omega) hi (by omega)
  · obtain ⟨j, hj, rfl⟩ := List.mem_iff_getElem.1 hx
    rw [List.length_drop] at hj
    rw [List.getElem_drop]
    exact fun e => h i (i + 1 + j) hi (by omega) (by omega) e.symm

theorem holdsC_names {x : List PartR} {t : Ex} (hw : wholeM x = some t) (hk : t.kind = 3) {names : List ByteArray} {last : List EvR} (hl : names.length = last.length) : holdsC x names last = if missM names (stagesM x) = false then 0 else 5 := by
  unfold holdsC
  rw [hw]
  simp only [if_pos hk, hl]
  simp

theorem holdsB_names {x : List PartR} {t : Ex} (ev : EvR) (hw : wholeM x = some t) (hk : t.kind = 3) {names : List ByteArray} {last : List EvR} (hl : names.length = last.length) (hm : missM names (stagesM x) = false) : holdsB x ev names last = (t.val (getM ev names last)).ok := by
  unfold holdsB
  rw [hw]
  simp [hk, hl, hm]

theorem Ex.val_congr {g g' : ByteArray → Int → ValR} : ∀ (t : Ex), (∀ p ∈ t.parts, g p.stage p.field = g' p.stage p.field) → t.val g = t.val g'
  | .leaf p, h => by
    have := h p (by simp [Ex.parts])
    simp only [Ex.val, this]
  | .neg p a, h => by
    rw [Ex.val, Ex.val, Ex.val_congr a fun q hq => h q (by simp [Ex.parts, hq])]
  | .bin p a b, h => by
    rw [Ex.val, Ex.val, Ex.val_congr a fun q hq => h q (by simp [Ex.parts, hq]), Ex.val_congr b fun q hq => h q (by simp [Ex.parts, hq])]

theorem idxFrom_succ {s : ByteArray} : ∀ (L : List ByteArray) (k : Nat), 0 ≤ idxFrom s L k → idxFrom s L (k + 1) = idxFrom s L k + 1
  | [], _, h => by simp [idxFrom] at h
  | x :: r, k, h => by
    rw [idxFrom] at h ⊢
    rw [idxFrom]
    split
    · rfl
    · rename_i hne
      rw [if_neg hne] at h
      exact idxFrom_succ r (k + 1) h

theorem needs_more {x : List PartR} (ev q : EvR) (hx : truthM x = true) {last : List EvR} (hl : (stagesM x).length = last.length) (hz : ∀ s ∈ stagesM x, s.data.toList ≠ bZzz.data.toList) :
    holdsB x ev (bZzz :: stagesM x) (q :: last) = holdsB x ev (stagesM x) last := by
  obtain ⟨t, hw, hk⟩ := truthM_some hx
  rw [holdsB_names ev hw hk (by simp [hl]) (miss_more _ _), holdsB_names ev hw hk hl (miss_self _)]
  refine congrArg ValR.ok (Ex.val_congr t fun p hp => ?_)
  have hp : p ∈ x := by rw [(wholeM_parts hw).1]; exact hp
  unfold getM
  split
  · rfl
  · rename_i hne
    obtain ⟨s, hs, he⟩ := (stages_cover x []).2 p hp hne
    have hzs : ¬ bZzz.data.toList = p.stage.data.toList := fun e => hz s hs (he.trans e.symm)
    have h0 : 0 ≤ idxFrom p.stage (stagesM x) 0 := by
      have := idxFrom_pos (s := p.stage) (stagesM x) 0 ⟨s, hs, he⟩
      omega
    rw [idxFrom, if_neg hzs, idxFrom_succ _ _ h0]
    have : (idxFrom p.stage (stagesM x) 0 + 1).toNat = (idxFrom p.stage (stagesM x) 0).toNat + 1 := by omega
    rw [this, List.getD_cons_succ]

theorem needs_code {x : List PartR} (hx : truthM x = true) {names : List ByteArray} {last : List EvR} (hl : names.length = last.length) : holdsC x names last = if missM names (stagesM x) = false then 0 else 5 := by
  obtain ⟨t, hw, hk⟩ := truthM_some hx
  exact holdsC_names hw hk hl

end Go.Proofs.YtefcmijobbgpbaaGreatDoor

namespace Go.Proofs.YtefcmijobbgpbaaGreatDoor
open Go.RowKit

set_option maxHeartbeats 4000000 in
set_option maxRecDepth 100000 in
theorem same_parts (l : List PartR) (v v' : Value) (w : World) (h : ArgPart w v l) (h' : ArgPart w v' l) (hl : l.length ≤ 9223372036854775807) :
    Calls Tryz.prog 16 #[v, v'] w fun e w' => e = .returned (.bool true) ∧ Keeps [] w w' := by
  obtain ⟨ao, cap, rfl, _, h2⟩ := h
  obtain ⟨ao', cap', rfl, _, h2'⟩ := h'
  obtain ⟨n, hn⟩ : ∃ n, l.length = n := ⟨_, rfl⟩
  rw [hn] at hl ⊢
  have HN := Lib.hid hn
  have H2 := Lib.hid h2
  have H2' := Lib.hid h2'
  have EQ := Lib.hid run_eqIn_part
  have GD := Lib.hid part_guard
  clear hn h2 h2'
  go_enter Tryz.func16, Tryz.ntmps16
  go_wp2_with fail
  go_loopw [5] (fun i wr => ∃ k : Nat, k ≤ n ∧ i = .int .i64 k ∧ Keeps [] w wr) (fun i _ => n - (intOf i).toNat)
  case atStart => exact ⟨0, Nat.zero_le _, rfl, Keeps.refl [] w⟩
  case round =>
    obtain ⟨k, hkn, rfl, hk⟩ := hrel
    by_cases hlt : k < n
    · have d1 : decide ((k : Int) < (n : Int)) = true := by simp; omega
      obtain ⟨p, hp⟩ : ∃ p, l[k]? = some p := ⟨l[k]'(by rw [HN.out]; omega), List.getElem?_eq_getElem _⟩
      have hne : l ≠ [] := by intro e; rw [e] at hp; cases hp
      obtain ⟨bk, o, rfl, hsl, hcl, hcr⟩ := H2.out hne
      obtain ⟨bk', o', rfl, hsl', hcl', hcr'⟩ := H2'.out hne
      obtain ⟨c0, c1, c2, c3, c4⟩ := hsl k p hp
      obtain ⟨f0, f1, f2, f3, f4⟩ := hsl' k p hp
      have c0 := hk.cell c0 (by simp)
      have c1 := hk.cell c1 (by simp)
      have c2 := hk.cell c2 (by simp)
      have c3 := hk.cell c3 (by simp)
      have c4 := hk.cell c4 (by simp)
      have f0 := hk.cell f0 (by simp)
      have f1 := hk.cell f1 (by simp)
      have f2 := hk.cell f2 (by simp)
      have f3 := hk.cell f3 (by simp)
      have f4 := hk.cell f4 (by simp)
      have bk0 : (0 : Int) ≤ (k : Int) := by omega
      have bk1 : (k : Int) < (n : Int) := by omega
      clear hsl hsl' hp hne
      obtain ⟨kd, pn, ps, st, f⟩ := p
      simp only at c0 c1 c2 c3 c4 f0 f1 f2 f3 f4
      go_wp2_with fail
      repeat (go_quiet (fail); try go_wp2_with fail)
      exact ⟨⟨k + 1, by omega, by simp, hk.drewN _⟩, by simp only [intOf]; omega⟩
    · have hke : k = n := by omega
      have d1 : decide ((k : Int) < (n : Int)) = false := by simp; omega
      go_wp2_with fail
      go_returns
      exact ⟨rfl, hk⟩

end Go.Proofs.YtefcmijobbgpbaaGreatDoor

namespace Go.Proofs.YtefcmijobbgpbaaGreatDoor
open Go.RowKit

theorem partsRow_len (l : List PartR) : (partsRow l).length = l.length * 5 := by
  induction l with
  | nil => rfl
  | cons p l ih => rw [partsRow_one, List.length_append, ih]; simp [partRow]; omega

theorem PartSl.row {w : World} {bk o : Nat} {l : List PartR} (h : PartSl w bk o l) (j : Nat) (u : Value) (hu : (partsRow l)[j]? = some u) : w.cell? ((⟨bk, o, none⟩ : Addr).add j) = some u := by
  have hj : j < l.length * 5 := by
    rcases Nat.lt_or_ge j (l.length * 5) with h | h
    · exact h
    · rw [List.getElem?_eq_none (by rw [partsRow_len]; exact h)] at hu; cases hu
  have hq : j / 5 < l.length := by omega
  have hx : l[j / 5]? = some l[j / 5] := List.getElem?_eq_getElem hq
  have h2 := partsRow_at l (j / 5) _ hx
  have h3 := h (j / 5) _ hx
  rw [addr_add]
  have hc : j % 5 = 0 ∨ j % 5 = 1 ∨ j % 5 = 2 ∨ j % 5 = 3 ∨ j % 5 = 4 := by omega
  rcases hc with hc | hc | hc | hc | hc
  · have e : j = j / 5 * 5 := by omega
    rw [e] at hu ⊢
    rw [h2.1] at hu
    cases hu
    exact h3.1
  · have e : j = j / 5 * 5 + 1 := by omega
    rw [e] at hu ⊢
    rw [h2.2.1] at hu
    cases hu
    exact h3.2.1
  · have e : j = j / 5 * 5 + 2 := by omega
    rw [e] at hu ⊢
    rw [h2.2.2.1] at hu
    cases hu
    exact h3.2.2.1
  · have e : j = j / 5 * 5 + 3 := by omega
    rw [e] at hu ⊢
    rw [h2.2.2.2.1] at hu
    cases hu
    exact h3.2.2.2.1
  · have e : j = j / 5 * 5 + 4 := by omega
    rw [e] at hu ⊢
    rw [h2.2.2.2.2] at hu
    cases hu
    exact h3.2.2.2.2

theorem ArgPart.slc {w : World} {v : Value} {l : List PartR} (h : ArgPart w v l) : SlC w v l.length 5 (partsRow l) := by
  obtain ⟨ao, cap, rfl, h1, h2⟩ := h
  refine ⟨ao, cap, rfl, partsRow_len l, fun h => ⟨by rw [(h1 h).2]; rfl, (h1 h).1⟩, fun b hb j u hu => ?_⟩
  by_cases hne : l = []
  · subst hne; cases hu
  · obtain ⟨bk, o, rfl, h3, h4⟩ := h2 hne
    cases hb
    exact h3.row j u hu

theorem flat_snoc {ls : List (List PartR)} {j : Nat} {l : List PartR} (h : ls[j]? = some l) : (ls.take (j + 1)).flatten = (ls.take j).flatten ++ l := by
  rw [List.take_add_one, h]
  simp

theorem flat_len : ∀ {ls : List (List PartR)} (j : Nat), (ls.take j).flatten.length ≤ ls.flatten.length
  | [], j => by simp
  | l :: ls, 0 => by simp
  | l :: ls, j + 1 => by
    have := flat_len (ls := ls) j
    simp only [List.take_succ_cons, List.flatten_cons, List.length_append]
    omega

def JoinedOut (B : Nat) (x : List PartR) (e : Ending) (w' : World) : Prop := ∃ ao q cp, e = .returned (.slice ao q cp) ∧ x.length = q ∧ w'.ownsRow B 58 5 (.slice ao q cp) q (partsRow x)

theorem JoinedOut.arg {B : Nat} {x : List PartR} {e : Ending} {w' : World} (h : JoinedOut B x e w') : ∃ v, e = .returned v ∧ ArgPart w' v x := by
  obtain ⟨ao, q, cp, rfl, hq, ho⟩ := h
  exact ⟨_, rfl, own_parts ho hq⟩

set_option maxHeartbeats 4000000 in
set_option maxRecDepth 100000 in
theorem joined_any (op : Int) (ls : List (List PartR)) (vs : List Value) (B n : Nat) (w : World) (hn : ls.length = n) (hv : vs.length = n) (hB : w.heap[B]? = some (.cells vs.toArray 22 (0, 0))) (hlt : n ≤ 100) (hfl : ls.flatten.length ≤ 1000)
    (hA : ∀ (j : Nat) (v : Value) (l : List PartR), vs[j]? = some v → ls[j]? = some l → ArgPart w v l) :
    Calls Tryz.prog 24 #[.int .i64 op, .slice (some ⟨B, 0, none⟩) n n] w fun e w' => JoinedOut w.heap.size (opP op :: ls.flatten) e w' ∧ Keeps [] w w' := by
  have hk0 := Keeps.refl [] w
  have HA := Lib.hid hA
  have HN := Lib.hid (And.intro hn hv)
  have HB := Lib.hid hB
  have HFL := Lib.hid hfl
  clear hA hn hv hB hfl
  go_enter Tryz.func24, Tryz.ntmps24
  go_wp2_with fail
  have hk1 := hk0.alloc (.cells #[.int .i64 op, .int .i64 0, .string ⟨#[]⟩, .string ⟨#[]⟩, .int .i64 0] 58 (0, 0))
  have ho1 := own_new w #[.int .i64 op, .int .i64 0, .string ⟨#[]⟩, .string ⟨#[]⟩, .int .i64 0] 58 5 1 rfl (by decide)
  go_loopw [5, 13] (fun v i wr => ∃ (j q : Nat) (ao : Option Addr) (cp : Nat), j ≤ n ∧ i = .int .i64 j ∧ v = .slice ao q cp ∧ Hid (1 + (ls.take j).flatten.length = q ∧ wr.ownsRow w.heap.size 58 5 (.slice ao q cp) q (partsRow (opP op :: (ls.take j).flatten))) ∧ Keeps [] w wr) (fun _ i _ => n - (intOf i).toNat)
  case atStart => exact ⟨0, 1, _, _, Nat.zero_le _, rfl, rfl, Lib.hid ⟨by simp, ho1⟩, hk1⟩
  case round =>
    clear hk1 ho1
    obtain ⟨j, q, ao, cp, hjn, rfl, rfl, hI, hk⟩ := hrel
    by_cases hlt' : j < n
    · have d1 : decide ((j : Int) < (n : Int)) = true := by simp; omega
      have b0 : (0 : Int) ≤ (j : Int) := by omega
      have b1 : (j : Int) < (n : Int) := by omega
      obtain ⟨v, hv⟩ : ∃ v, vs[j]? = some v := ⟨vs[j]'(by rw [HN.out.2]; omega), List.getElem?_eq_getElem _⟩
      obtain ⟨l, hl⟩ : ∃ l, ls[j]? = some l := ⟨ls[j]'(by rw [HN.out.1]; omega), List.getElem?_eq_getElem _⟩
      have c0 : wr.cell? ⟨B, 0 + j * 1, none⟩ = some v := by
        have := hk.heap HB.out (by simp)
        simp only [World.cell?, this]
        simpa using hv
      have HS := Lib.hid ((HA.out j v l hv hl).keep hk)
      obtain ⟨ao', cp', hve, _, _⟩ := HS.out
      subst hve
      have HFS := Lib.hid (flat_snoc hl)
      have hsz : q + l.length ≤ 1001 := by
        have h1 := flat_len (ls := ls) (j + 1)
        rw [HFS.out] at h1
        have h2 := hI.out.1
        have h3 := HFL.out
        simp only [List.length_append] at h1
        omega
      clear hv hl
      simp only [Nat.zero_add, Nat.mul_one] at c0
      have hsl := HS.out.slc
      go_wp2_with (at_builtin; refine list_append_any rtPart (by rfl) _ _ (by rfl) w.heap.size (.slice ao q cp) q (partsRow (opP op :: (ls.take j).flatten)) (by rfl) hI.out.2 _ l.length (partsRow l) (by rfl) hsl (partsRow_cell l) (by omega) (by unfold maxLen; omega) hk.size ?_; intro ao1 cp1 w6 hown1 hgrow hat hnil; have hk3 := hk.grown hgrow (fun k h => .inr (own_ge hI.out.2 h)))
      refine ⟨⟨j + 1, q + l.length, ao1, cp1, by omega, by simp, rfl, Lib.hid ⟨?_, ?_⟩, hk3⟩, by simp only [intOf]; omega⟩
      · rw [HFS.out, List.length_append]
        have := hI.out.1
        omega
      · rw [HFS.out, ← List.cons_append, partsRow_app]
        exact hown1
    · have hje : j = n := by omega
      have d1 : decide ((j : Int) < (n : Int)) = false := by simp; omega
      go_wp2_with fail
      go_returns
      have hx : ls.take j = ls := by rw [hje, ← HN.out.1]; simp
      have h1 := hI.out.1
      have h2 := hI.out.2
      rw [hx] at h1 h2
      exact ⟨⟨ao, q, cp, rfl, by simp only [List.length_cons]; omega, h2⟩, hk⟩

set_option maxHeartbeats 2000000 in
set_option maxRecDepth 100000 in
theorem wholeLaw_any (l : List PartR) (v : Value) (w : World) (hG : GlobX w) (hok : ∀ x ∈ l, x.ok) (hA : ArgPart w v l) :
    Calls Tryz.prog 23 #[v] w fun e w' => e = .returned (.bool (truthM l)) ∧ Keeps [] w w' := by
  have HC := Lib.hid (check_any l v w hG hok hA)
  obtain ⟨ao, cap, rfl, _, _⟩ := hA
  have hT : truthM l = (decide (checkE l = 0) && decide (checkK l = 3)) := rfl
  rw [hT]
  generalize checkE l = ce at *
  generalize checkK l = ck at *
  clear hT
  go_enter Tryz.func23, Tryz.ntmps23
  go_wp2_with (go_at_call 9; refine HC.out.mono ?_; rintro e w2 ⟨rfl, hk2⟩)
  all_goals go_returns
  all_goals simp_all
  all_goals (rw [Bool.eq_iff_iff]; simp)

end Go.Proofs.YtefcmijobbgpbaaGreatDoor

namespace Go.Proofs.YtefcmijobbgpbaaGreatDoor
open Go.RowKit

theorem rtEv : RowTy Tryz.prog 38 37 7 80 := ⟨by kernel_rfl, by kernel_rfl, by decide⟩

def evCells (e : EvR) : List Value := [.string e.key, .string e.typ, .int .i64 e.n0, .int .i64 e.n1, .int .i64 e.n2, .int .i64 e.n3, .string e.text]
def evsRow (l : List EvR) : List Value := l.flatMap evCells

theorem evsRow_one (e : EvR) (l : List EvR) : evsRow (e :: l) = evCells e ++ evsRow l := rfl
theorem evsRow_app (l l' : List EvR) : evsRow (l ++ l') = evsRow l ++ evsRow l' := by simp [evsRow]
theorem evsRow_len (l : List EvR) : (evsRow l).length = l.length * 7 := by
  induction l with
  | nil => rfl
  | cons p l ih => rw [evsRow_one, List.length_append, ih]; simp [evCells]; omega
theorem evsRow_cell (l : List EvR) : ∀ u ∈ evsRow l, u.oneCell' = true := by
  intro u hu
  simp only [evsRow, List.mem_flatMap, evCells, List.mem_cons, List.not_mem_nil, or_false] at hu
  obtain ⟨x, _, h⟩ := hu
  rcases h with rfl | rfl | rfl | rfl | rfl | rfl | rfl <;> rfl

theorem evsRow_at : ∀ (l : List EvR) (j : Nat) (x : EvR), l[j]? = some x → (evsRow l)[j * 7]? = some (.string x.key) ∧ (evsRow l)[j * 7 + 1]? = some (.string x.typ) ∧ (evsRow l)[j * 7 + 2]? = some (.int .i64 x.n0) ∧ (evsRow l)[j * 7 + 3]? = some (.int .i64 x.n1) ∧
    (evsRow l)[j * 7 + 4]? = some (.int .i64 x.n2) ∧ (evsRow l)[j * 7 + 5]? = some (.int .i64 x.n3) ∧ (evsRow l)[j * 7 + 6]? = some (.string x.text)
  | [], j, x, h => by simp at h
  | y :: l, 0, x, h => by
    cases h
    exact ⟨rfl, rfl, rfl, rfl, rfl, rfl, rfl⟩
  | y :: l, j + 1, x, h => by
    have ih := evsRow_at l j x (by simpa using h)
    have e : ∀ i, (evsRow (y :: l))[(j + 1) * 7 + i]? = (evsRow l)[j * 7 + i]? := fun i => by
      rw [evsRow_one, List.getElem?_append_right (by simp [evCells]; omega)]
      congr 1
      simp [evCells]
      omega
    exact ⟨(e 0).trans ih.1, (e 1).trans ih.2.1, (e 2).trans ih.2.2.1, (e 3).trans ih.2.2.2.1, (e 4).trans ih.2.2.2.2.1, (e 5).trans ih.2.2.2.2.2.1, (e 6).trans ih.2.2.2.2.2.2⟩

theorem own_evs {w : World} {base cp n : Nat} {ao : Option Addr} {L : List EvR} (h : w.ownsRow base 37 7 (.slice ao n cp) n (evsRow L)) (hn : L.length = n) : ArgEv w (.slice ao n cp) L := by
  subst hn
  refine ⟨ao, cp, rfl, fun h0 => ?_, fun hne => ?_⟩
  · rcases h.2 with ⟨he, h0'⟩ | ⟨g, cap, cur, he, _⟩
    · obtain ⟨_, _, e3⟩ := Value.slice.inj he
      exact ⟨e3, List.eq_nil_of_length_eq_zero h0'⟩
    · rw [h0] at he
      obtain ⟨e1, _, _⟩ := Value.slice.inj he
      cases e1
  · rcases h.2 with ⟨he, h0'⟩ | ⟨g, cap, cur, he, hb, hg, hnc, hm, _, _⟩
    · exact absurd (List.eq_nil_of_length_eq_zero h0') hne
    · cases he
      refine ⟨g, 0, rfl, fun j x hx => ?_, hnc, by unfold maxLen at hm; exact hm⟩
      obtain ⟨h0, h1, h2, h3, h4, h5, h6⟩ := evsRow_at L j x hx
      have g0 := h.cells rfl _ _ h0
      have g1 := h.cells rfl _ _ h1
      have g2 := h.cells rfl _ _ h2
      have g3 := h.cells rfl _ _ h3
      have g4 := h.cells rfl _ _ h4
      have g5 := h.cells rfl _ _ h5
      have g6 := h.cells rfl _ _ h6
      rw [addr_add] at g0 g1 g2 g3 g4 g5 g6
      exact ⟨g0, g1, g2, g3, g4, g5, g6⟩

/-- A part of a slice of texts. -/
theorem ArgStr.slc {w : World} {v : Value} {l : List ByteArray} (h : ArgStr w v l) : SlC w v l.length 1 (l.map Value.string) := by
  obtain ⟨ao, cap, rfl, h1, h2⟩ := h
  refine ⟨ao, cap, rfl, by simp, fun h => ⟨by rw [(h1 h).2]; rfl, (h1 h).1⟩, fun b hb j u hu => ?_⟩
  by_cases hne : l = []
  · subst hne; cases hu
  · obtain ⟨bk, o, rfl, h3, h4⟩ := h2 hne
    cases hb
    rw [List.getElem?_map] at hu
    cases hl : l[j]? with
    | none => rw [hl] at hu; cases hu
    | some x =>
      rw [hl] at hu
      cases hu
      rw [addr_add]
      exact h3 j x hl

theorem SlC.front {w : World} {ao : Option Addr} {n cap size : Nat} {cells : List Value} (h : SlC w (.slice ao n cap) n size cells) {k : Nat} (hk : k ≤ n) : SlC w (.slice ao k cap) k size (cells.take (k * size)) := by
  obtain ⟨ao', cap', he, hl, hn, hc⟩ := h
  cases he
  refine ⟨ao, cap, rfl, ?_, fun h0 => ⟨by have := (hn h0).1; omega, (hn h0).2⟩, fun b hb j u hu => ?_⟩
  · rw [List.length_take, hl]
    exact Nat.min_eq_left (Nat.mul_le_mul_right _ hk)
  · rw [List.getElem?_take] at hu
    split at hu
    · exact hc b hb j u hu
    · cases hu

theorem SlC.back {w : World} {b o : Nat} {n cap size : Nat} {cells : List Value} (h : SlC w (.slice (some ⟨b, o, none⟩) n cap) n size cells) {k : Nat} (hk : k ≤ n) {o' : Nat} (ho : k < n → o' = o + k * size) (c : Nat) : SlC w (.slice (some ⟨b, o', none⟩) (n - k) c) (n - k) size (cells.drop (k * size)) := by
  obtain ⟨ao', cap', he, hl, hn, hc⟩ := h
  cases he
  refine ⟨_, c, rfl, ?_, fun h0 => by (cases h0), fun b' hb j u hu => ?_⟩
  · rw [List.length_drop, hl, Nat.sub_mul]
  · cases hb
    rw [List.getElem?_drop] at hu
    have h1 := hc ⟨b, o, none⟩ rfl _ u hu
    rw [addr_add] at h1 ⊢
    rcases Nat.lt_or_ge k n with hkn | hkn
    · rw [ho hkn, Nat.add_assoc]
      exact h1
    · rw [List.getElem?_eq_none (by rw [hl, show k = n by omega]; omega)] at hu
      cases hu

theorem truth_len {x : List PartR} (h : truthM x = true) : x.length ≤ 200 := by
  obtain ⟨t, hw, _⟩ := truthM_some h
  exact (wholeM_parts hw).2

theorem SlC.behind {w : World} {b o o2 : Nat} {n cap size : Nat} {cells : List Value} (h : SlC w (.slice (some ⟨b, o, none⟩) n cap) n size cells) {k : Nat} (hk : k ≤ n) (hc : n ≤ cap) (ho : o2 = o + k * size) : SlC w (.slice (if cap = k then some ⟨b, o, none⟩ else some ⟨b, o2, none⟩) (n - k) (cap - k)) (n - k) size (cells.drop (k * size)) := by
  split
  · rename_i he
    exact h.back hk (fun h => by omega) _
  · exact h.back hk (fun _ => ho) _

theorem strs_one (L : List ByteArray) : ∀ u ∈ L.map Value.string, u.oneCell' = true := by
  intro u hu
  obtain ⟨s, _, rfl⟩ := List.mem_map.1 hu
  rfl

theorem strs_front {w : World} {bk o k cap : Nat} {L : List ByteArray} (h : ArgStr w (.slice (some ⟨bk, o, none⟩) k cap) L) (hl : L.length = k) {i : Nat} (hi : i ≤ k) : SlC w (.slice (some ⟨bk, o, none⟩) i cap) i 1 ((L.take i).map Value.string) := by
  have h1 := h.slc
  rw [hl] at h1
  have h2 := h1.front hi
  rwa [Nat.mul_one, ← List.map_take] at h2

theorem strs_back {w : World} {bk o k cap : Nat} {L : List ByteArray} (h : ArgStr w (.slice (some ⟨bk, o, none⟩) k cap) L) (hl : L.length = k) {i : Nat} (hi : i < k) (hc : k ≤ cap) : SlC w (.slice (if cap = i + 1 then some ⟨bk, o, none⟩ else some ⟨bk, o + (i + 1), none⟩) (k - (i + 1)) (cap - (i + 1))) (k - (i + 1)) 1 ((L.drop (i + 1)).map Value.string) := by
  have h1 := h.slc
  rw [hl] at h1
  have h2 := h1.behind (k := i + 1) (o2 := o + (i + 1)) (by omega) hc (by omega)
  rwa [Nat.mul_one, ← List.map_drop] at h2

theorem evsRow_take : ∀ (l : List EvR) (i : Nat), (evsRow l).take (i * 7) = evsRow (l.take i)
  | [], i => by simp [evsRow]
  | e :: l, 0 => by simp [evsRow]
  | e :: l, i + 1 => by
    rw [List.take_succ_cons, evsRow_one, evsRow_one, ← evsRow_take l i, show (i + 1) * 7 = (evCells e).length + i * 7 by simp [evCells]; omega, List.take_length_add_append]

theorem evsRow_drop : ∀ (l : List EvR) (i : Nat), (evsRow l).drop (i * 7) = evsRow (l.drop i)
  | [], i => by simp [evsRow]
  | e :: l, 0 => by simp
  | e :: l, i + 1 => by
    rw [List.drop_succ_cons, evsRow_one, ← evsRow_drop l i, show (i + 1) * 7 = (evCells e).length + i * 7 by simp [evCells]; omega, List.drop_length_add_append]

theorem evs_front {w : World} {base b k cap : Nat} {l : List EvR} (h : w.ownsRow base 37 7 (.slice (some ⟨b, 0, none⟩) k cap) k (evsRow l)) {i : Nat} (hi : i ≤ k) : SlC w (.slice (some ⟨b, 0, none⟩) i cap) i 7 (evsRow (l.take i)) := by
  have h2 := (SlC.of_own h).front hi
  rwa [evsRow_take] at h2

theorem evs_back {w : World} {base b k cap : Nat} {l : List EvR} (h : w.ownsRow base 37 7 (.slice (some ⟨b, 0, none⟩) k cap) k (evsRow l)) {i : Nat} (hi : i < k) (hc : k ≤ cap) : SlC w (.slice (if cap = i + 1 then some ⟨b, 0, none⟩ else some ⟨b, (i + 1) * 7, none⟩) (k - (i + 1)) (cap - (i + 1))) (k - (i + 1)) 7 (evsRow (l.drop (i + 1))) := by
  have h2 := (SlC.of_own h).behind (k := i + 1) (o2 := (i + 1) * 7) (by omega) hc (by omega)
  rwa [evsRow_drop] at h2

/-! ### Two rows that grow, apart -/
structure Two (base : Nat) (w : World) (vN vE : Value) (nN nE : Nat) (xN : List ByteArray) (xE : List EvR) : Prop where
  n : w.ownsRow base 9 1 vN nN (xN.map Value.string)
  e : w.ownsRow base 37 7 vE nE (evsRow xE)
  apart : ∀ b, vN.ownBlock = some b → vE.ownBlock ≠ some b

theorem own_lt {w : World} {base e size : Nat} {v : Value} {n : Nat} {xs : List Value} (h : w.ownsRow base e size v n xs) {b : Nat} (hb : v.ownBlock = some b) : b < w.heap.size := by
  rcases h.2 with ⟨rfl, _⟩ | ⟨g, cap, cur, rfl, _, hg, _⟩
  · cases hb
  · simp only [Value.ownBlock, Option.some.injEq] at hb
    subst hb
    exact heap_lt hg

theorem Two.growN {base : Nat} {w w' : World} {vN vE v' : Value} {nN nE n' : Nat} {xN x' : List ByteArray} {xE : List EvR} (h : Two base w vN vE nN nE xN xE) (ho : w'.ownsRow base 9 1 v' n' (x'.map Value.string)) (hg : w.grownBy w' vN.ownBlock) (hat : v'.ownBlock = vN.ownBlock ∨ v'.ownBlock = some w.heap.size) : Two base w' v' vE n' nE x' xE := by
  refine ⟨ho, ?_, fun b hb => ?_⟩
  · cases hv : vN.ownBlock with
    | none => exact own_kept h.e ((Keeps.refl [] w).grown hg (by rw [hv]; simp)) (by simp)
    | some c => exact own_kept h.e ((Keeps.refl [c] w).grown hg (by rw [hv]; simp)) (fun b hb => by
        simp only [List.mem_singleton]
        exact fun e => h.apart c hv (by rw [hb, e]))
  · rcases hat with h1 | h1
    · exact h.apart b (by rw [← h1]; exact hb)
    · intro h2
      have := own_lt h.e h2
      rw [h1] at hb
      cases hb
      omega

theorem Two.growE {base : Nat} {w w' : World} {vN vE v' : Value} {nN nE n' : Nat} {xN : List ByteArray} {xE x' : List EvR} (h : Two base w vN vE nN nE xN xE) (ho : w'.ownsRow base 37 7 v' n' (evsRow x')) (hg : w.grownBy w' vE.ownBlock) (hat : v'.ownBlock = vE.ownBlock ∨ v'.ownBlock = some w.heap.size) : Two base w' vN v' nN n' xN x' := by
  refine ⟨?_, ho, fun b hb => ?_⟩
  · cases hv : vE.ownBlock with
    | none => exact own_kept h.n ((Keeps.refl [] w).grown hg (by rw [hv]; simp)) (by simp)
    | some c => exact own_kept h.n ((Keeps.refl [c] w).grown hg (by rw [hv]; simp)) (fun b hb => by
        simp only [List.mem_singleton]
        exact fun e => h.apart b hb (by rw [hv, e]))
  · rcases hat with h1 | h1
    · rw [h1]
      exact h.apart b hb
    · intro h2
      have := own_lt h.n hb
      rw [h1] at h2
      cases h2
      omega

theorem Two.newE {base : Nat} {w : World} {vN : Value} {nN : Nat} {xN : List ByteArray} (h : w.ownsRow base 9 1 vN nN (xN.map Value.string)) (xs : List EvR) (m : Nat) (hm : xs.length = m) (hm2 : m ≤ maxLen) (hb : base ≤ w.heap.size) :
    Two base (w.alloc (.cells (evsRow xs).toArray 37 (0, 0))) vN (.slice (some ⟨w.heap.size, 0, none⟩) m m) nN m xN xs := by
  refine ⟨own_kept h ((Keeps.refl [] w).alloc _) (by simp), ?_, fun b hb2 => ?_⟩
  · have := own_mono (own_new w (evsRow xs).toArray 37 7 m (by simp [evsRow_len, hm]) hm2) hb
    simpa using this
  · have := own_lt h hb2
    simp only [Value.ownBlock, ne_eq, Option.some.injEq]
    omega

theorem Two.newN {base : Nat} {w : World} {vE : Value} {nE : Nat} {xE : List EvR} (h : w.ownsRow base 37 7 vE nE (evsRow xE)) (xs : List ByteArray) (m : Nat) (hm : xs.length = m) (hm2 : m ≤ maxLen) (hb : base ≤ w.heap.size) :
    Two base (w.alloc (.cells (xs.map Value.string).toArray 9 (0, 0))) (.slice (some ⟨w.heap.size, 0, none⟩) m m) vE m nE xs xE := by
  refine ⟨?_, own_kept h ((Keeps.refl [] w).alloc _) (by simp), fun b hb2 => ?_⟩
  · have := own_mono (own_new w (xs.map Value.string).toArray 9 1 m (by simp [hm]) hm2) hb
    simpa using this
  · simp only [Value.ownBlock, Option.some.injEq] at hb2
    subst hb2
    intro h2
    have := own_lt h h2
    omega

end Go.Proofs.YtefcmijobbgpbaaGreatDoor
