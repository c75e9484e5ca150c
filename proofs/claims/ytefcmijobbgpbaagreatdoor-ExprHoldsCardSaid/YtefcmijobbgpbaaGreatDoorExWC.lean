/- The document's kind and Check. Conditions: those of each theorem. -/
import Derived.Test.YtefcmijobbgpbaaGreatDoorExWB
import Derived.Test.YtefcmijobbgpbaaGreatDoorExI
namespace Go.Proofs.YtefcmijobbgpbaaGreatDoor
open Go.RowKit

/-- What kind answers, of what stands at a place. -/
def KindOut (at_ left : Nat) (len : Nat) (r : Option (Ex × List PartR)) (e : Ending) : Prop :=
  match r with
  | some (t, _) => ∃ d : Nat, e = .returned (.tuple #[.int .i64 t.kind, .int .i64 ((at_ + t.parts.length : Nat) : Int), .int .i64 (d : Int)]) ∧ 1 ≤ d ∧ d ≤ left
  | none => ∃ q d : Nat, e = .returned (.tuple #[.int .i64 0, .int .i64 (q : Int), .int .i64 (d : Int)]) ∧ q ≤ len ∧ d ≤ left

theorem KindOut.none_form {at_ left len : Nat} {e : Ending} (h : KindOut at_ left len none e) : ∃ q d : Nat, e = .returned (.tuple #[.int .i64 0, .int .i64 (q : Int), .int .i64 (d : Int)]) ∧ q ≤ len ∧ d ≤ left := h
theorem KindOut.some_form {at_ left len : Nat} {t : Ex} {r : List PartR} {e : Ending} (h : KindOut at_ left len (some (t, r)) e) : ∃ d : Nat, e = .returned (.tuple #[.int .i64 t.kind, .int .i64 ((at_ + t.parts.length : Nat) : Int), .int .i64 (d : Int)]) ∧ 1 ≤ d ∧ d ≤ left := h

theorem growM_rest {d : Nat} {x r : List PartR} {t : Ex} {k : Nat} (h : growM d (x.drop k) = some (t, r)) (hk : k ≤ x.length) : x.drop (k + t.parts.length) = r ∧ k + t.parts.length ≤ x.length := by
  have h1 := growM_parts h
  refine ⟨?_, ?_⟩
  · rw [← List.drop_drop, h1, List.drop_append_of_le_length (Nat.le_refl _), List.drop_length, List.nil_append]
  · have h2 := congrArg List.length h1
    rw [List.length_drop, List.length_append] at h2
    omega

theorem leaf_range {p : PartR} (_hm : isM p = true) (_h3 : p.kind ≤ 3) : 1 ≤ leafKind p ∧ leafKind p ≤ 3 := by
  unfold leafKind
  split
  · omega
  · split
    · omega
    · split <;> omega

theorem growM_kind : ∀ {d : Nat} {x r : List PartR} {t : Ex}, growM d x = some (t, r) → 1 ≤ t.kind ∧ t.kind ≤ 3
  | 0, x, r, t, h => by simp [growM] at h
  | d + 1, [], r, t, h => by simp [growM] at h
  | d + 1, p :: x, r, t, h => by
    cases hm : isM p with
    | false => rw [growM_not hm] at h; cases h
    | true =>
      have hb := isM_bad_kind hm
      by_cases h3 : p.kind ≤ 3
      · rw [growM_leaf hm h3] at h
        cases h
        exact leaf_range hm h3
      · by_cases h13 : p.kind = 13
        · rw [growM_neg hm h13] at h
          cases hg : growM d x with
          | none => rw [hg] at h; cases h
          | some q =>
            obtain ⟨a, x1⟩ := q
            rw [hg] at h
            simp only [negM] at h
            split at h
            · cases h; simp [Ex.kind]
            · cases h
        · rw [growM_bin hm (by omega) (by omega)] at h
          cases hg : growM d x with
          | none => rw [hg] at h; cases h
          | some q =>
            obtain ⟨a, x1⟩ := q
            rw [hg] at h
            simp only [binM] at h
            cases hg2 : growM d x1 with
            | none => rw [hg2] at h; cases h
            | some q2 =>
              obtain ⟨b, x2⟩ := q2
              rw [hg2] at h
              simp only [binM.bin2M] at h
              split at h
              · cases h
                simp only [Ex.kind]
                have hc : p.kind = 4 ∨ p.kind = 5 ∨ p.kind = 6 ∨ p.kind = 7 ∨ p.kind = 8 ∨ p.kind = 9 ∨ p.kind = 10 ∨ p.kind = 11 ∨ p.kind = 12 := by omega
                rcases hc with e | e | e | e | e | e | e | e | e <;> rw [e] <;> decide
              · cases h

def KindIH (x : List PartR) (left : Nat) : Prop := ∀ (at_ : Nat) (v : Value) (w : World), at_ ≤ x.length → ArgPart w v x → Calls Tryz.prog 26 #[v, .int .i64 (at_ : Int), .int .i64 (left : Int)] w fun e w' => KindOut at_ left x.length (growM left (x.drop at_)) e ∧ Keeps [] w w'

set_option maxHeartbeats 4000000 in
set_option maxRecDepth 100000 in
/-- Nothing may stand there. -/
theorem kind_bad (x : List PartR) (hok : ∀ p ∈ x, p.ok) (left at_ : Nat) (v : Value) (w : World) (hat : at_ ≤ x.length) (hll : left ≤ 64) (_hxl : x.length ≤ 9223372036854775807) (hA : ArgPart w v x) (hbad : at_ = x.length ∨ left = 0 ∨ ∃ p, x[at_]? = some p ∧ isM p = false) :
    Calls Tryz.prog 26 #[v, .int .i64 (at_ : Int), .int .i64 (left : Int)] w fun e w' => e = .returned (.tuple #[.int .i64 0, .int .i64 0, .int .i64 0]) ∧ Keeps [] w w' := by
  have hk0 := Keeps.refl [] w
  obtain ⟨ao, cap, rfl, _, h2⟩ := hA
  have H2 := Lib.hid h2
  obtain ⟨n, hn⟩ : ∃ n, x.length = n := ⟨_, rfl⟩
  rw [hn] at hat hbad ⊢
  have HN := Lib.hid hn
  clear h2 hn
  by_cases h1 : at_ = n
  · subst h1
    have d1 : decide ((at_ : Int) ≥ (at_ : Int)) = true := by simp
    go_enter Tryz.func26, Tryz.ntmps26
    go_wp2_with fail
    go_returns
    exact ⟨rfl, hk0⟩
  · have d1 : decide ((at_ : Int) ≥ (n : Int)) = false := by simp; omega
    by_cases h3 : left = 0
    · subst h3
      go_enter Tryz.func26, Tryz.ntmps26
      go_wp2_with fail
      go_returns
      exact ⟨rfl, hk0⟩
    · have d2 : ((left : Int) == 0) = false := by rw [beq_eq_false_iff_ne]; omega
      obtain ⟨p, hp, hm⟩ : ∃ p, x[at_]? = some p ∧ isM p = false := by
        rcases hbad with h | h | h
        · exact absurd h h1
        · exact absurd h h3
        · exact h
      have b0 : (0 : Int) ≤ (at_ : Int) := by omega
      have b1 : (at_ : Int) < (n : Int) := by omega
      obtain ⟨bk, o, hao, hsl, _, _⟩ := H2.out (by intro e; rw [e] at hp; cases hp)
      subst hao
      obtain ⟨c0, c1, c2, c3, c4⟩ := hsl at_ p hp
      have HM := fun w => Lib.hid (may_any p (hok p (List.mem_of_getElem? hp)) w)
      rw [hm] at HM
      clear hp hm hsl hbad hok
      go_enter Tryz.func26, Tryz.ntmps26
      go_wp2_with (go_at_call 42; refine (HM _).out.mono ?_; rintro e w2 ⟨rfl, hk2⟩)
      go_returns
      exact ⟨rfl, hk2⟩

set_option maxHeartbeats 4000000 in
set_option maxRecDepth 100000 in
/-- A leaf. -/
theorem kind_leaf (x : List PartR) (hok : ∀ p ∈ x, p.ok) (d at_ : Nat) (v : Value) (w : World) (hll : d ≤ 64) (hxl : x.length ≤ 9223372036854775806) (hA : ArgPart w v x) (p : PartR) (hp : x[at_]? = some p) (hm : isM p = true) (h3 : p.kind ≤ 3) :
    Calls Tryz.prog 26 #[v, .int .i64 (at_ : Int), .int .i64 ((d : Int) + 1)] w fun e w' => e = .returned (.tuple #[.int .i64 (leafKind p), .int .i64 ((at_ : Int) + 1), .int .i64 1]) ∧ Keeps [] w w' := by
  have hk0 := Keeps.refl [] w
  obtain ⟨ao, cap, rfl, _, h2⟩ := hA
  have hlt : at_ < x.length := by
    rcases Nat.lt_or_ge at_ x.length with h | h
    · exact h
    · rw [List.getElem?_eq_none h] at hp; cases hp
  obtain ⟨n, hn⟩ : ∃ n, x.length = n := ⟨_, rfl⟩
  rw [hn] at hlt hxl ⊢
  have d1 : decide ((at_ : Int) ≥ (n : Int)) = false := by simp; omega
  have d2 : (((d : Int) + 1) == 0) = false := by rw [beq_eq_false_iff_ne]; omega
  have b0 : (0 : Int) ≤ (at_ : Int) := by omega
  have b1 : (at_ : Int) < (n : Int) := by omega
  obtain ⟨bk, o, hao, hsl, _, _⟩ := h2 (by intro e; rw [e] at hp; cases hp)
  subst hao
  obtain ⟨c0, c1, c2, c3, c4⟩ := hsl at_ p hp
  have HM := fun w => Lib.hid (may_any p (hok p (List.mem_of_getElem? hp)) w)
  rw [hm] at HM
  have hb := isM_bad_kind hm
  have hc : p.kind = 1 ∨ p.kind = 2 ∨ p.kind = 3 := by omega
  have HLK : Hid (leafKind p = if p.kind = 1 then 1 else if p.kind = 2 then 2 else if 4 ≤ p.field then 2 else 1) := Lib.hid rfl
  obtain ⟨kd, pn, ps, st, f⟩ := p
  simp only at c0 c1 c2 c3 c4 hc HM HLK
  clear hp hm hsl hok h2 hb h3 hn
  have wr1 : IntKind.i64.wrap ((at_ : Int) + 1) = (at_ : Int) + 1 := IntWalk.i64_in _ (by omega)
  have hk1 := fun W (hk : Keeps [] w W) => hk.alloc (.cells #[.int .i64 kd, .int .i64 pn, .string ps, .string st, .int .i64 f] 58 (0, 0))
  rcases hc with rfl | rfl | rfl
  · have hl := HLK.out
    rw [if_pos rfl] at hl
    rw [hl]
    clear HLK hl
    go_enter Tryz.func26, Tryz.ntmps26
    go_wp2_with (go_at_call 42; refine (HM _).out.mono ?_; rintro e w2 ⟨rfl, hk2⟩; have c0 := hk2.cell c0 (by simp); have c1 := hk2.cell c1 (by simp); have c2 := hk2.cell c2 (by simp); have c3 := hk2.cell c3 (by simp); have c4 := hk2.cell c4 (by simp))
    go_returns
    exact ⟨rfl, hk1 _ hk2⟩
  · have hl := HLK.out
    rw [if_neg (by decide), if_pos rfl] at hl
    rw [hl]
    clear HLK hl
    go_enter Tryz.func26, Tryz.ntmps26
    go_wp2_with (go_at_call 42; refine (HM _).out.mono ?_; rintro e w2 ⟨rfl, hk2⟩; have c0 := hk2.cell c0 (by simp); have c1 := hk2.cell c1 (by simp); have c2 := hk2.cell c2 (by simp); have c3 := hk2.cell c3 (by simp); have c4 := hk2.cell c4 (by simp))
    go_returns
    exact ⟨rfl, hk1 _ hk2⟩
  · have hl := HLK.out
    rw [if_neg (by decide), if_neg (by decide)] at hl
    by_cases hf : f < 4
    · have d3 : decide (f < 4) = true := by simp; omega
      rw [if_neg (by omega)] at hl
      rw [hl]
      clear HLK hl
      go_enter Tryz.func26, Tryz.ntmps26
      go_wp2_with (go_at_call 42; refine (HM _).out.mono ?_; rintro e w2 ⟨rfl, hk2⟩; have c0 := hk2.cell c0 (by simp); have c1 := hk2.cell c1 (by simp); have c2 := hk2.cell c2 (by simp); have c3 := hk2.cell c3 (by simp); have c4 := hk2.cell c4 (by simp))
      go_returns
      exact ⟨rfl, hk1 _ hk2⟩
    · have d3 : decide (f < 4) = false := by simp; omega
      rw [if_pos (by omega)] at hl
      rw [hl]
      clear HLK hl
      go_enter Tryz.func26, Tryz.ntmps26
      go_wp2_with (go_at_call 42; refine (HM _).out.mono ?_; rintro e w2 ⟨rfl, hk2⟩; have c0 := hk2.cell c0 (by simp); have c1 := hk2.cell c1 (by simp); have c2 := hk2.cell c2 (by simp); have c3 := hk2.cell c3 (by simp); have c4 := hk2.cell c4 (by simp))
      go_returns
      exact ⟨rfl, hk1 _ hk2⟩

theorem ofM_zero (k : Int) (hk : 4 ≤ k ∧ k ≤ 13) : ofM k 0 0 = 0 := by
  have hc : k = 4 ∨ k = 5 ∨ k = 6 ∨ k = 7 ∨ k = 8 ∨ k = 9 ∨ k = 10 ∨ k = 11 ∨ k = 12 ∨ k = 13 := by omega
  rcases hc with rfl | rfl | rfl | rfl | rfl | rfl | rfl | rfl | rfl | rfl <;> decide

set_option maxHeartbeats 8000000 in
set_option maxRecDepth 100000 in
/-- An operation. -/
theorem kind_op (x : List PartR) (hok : ∀ p ∈ x, p.ok) (d at_ : Nat) (IH : KindIH x d) (v : Value) (w : World) (hll : d ≤ 64) (hxl : x.length ≤ 1000000) (hA : ArgPart w v x) (p : PartR) (hp : x[at_]? = some p) (hm : isM p = true) (h4 : 4 ≤ p.kind) :
    Calls Tryz.prog 26 #[v, .int .i64 (at_ : Int), .int .i64 ((d : Int) + 1)] w fun e w' => KindOut at_ (d + 1) x.length (growM (d + 1) (x.drop at_)) e ∧ Keeps [] w w' := by
  have hk0 := Keeps.refl [] w
  have hlt : at_ < x.length := by
    rcases Nat.lt_or_ge at_ x.length with h | h
    · exact h
    · rw [List.getElem?_eq_none h] at hp; cases hp
  have hdrop : x.drop at_ = p :: x.drop (at_ + 1) := by
    rw [List.drop_eq_getElem_cons hlt]
    rw [List.getElem?_eq_getElem hlt] at hp
    cases hp
    rfl
  rw [hdrop]
  have hb := isM_bad_kind hm
  have HI := Lib.hid IH
  have HA := Lib.hid hA
  obtain ⟨ao, cap, rfl, _, h2⟩ := hA
  obtain ⟨n, hn⟩ : ∃ n, x.length = n := ⟨_, rfl⟩
  have HN := Lib.hid hn
  obtain ⟨bk, o, hao, hsl, _, _⟩ := h2 (by intro e; rw [e] at hp; cases hp)
  subst hao
  obtain ⟨c0, c1, c2, c3, c4⟩ := hsl at_ p hp
  have HM := fun w => Lib.hid (may_any p (hok p (List.mem_of_getElem? hp)) w)
  rw [hm] at HM
  rw [hn] at hlt hxl HA ⊢
  have HG13 := Lib.hid (fun h13 => growM_neg (d := d) (l := x.drop (at_ + 1)) hm h13)
  have HG12 := Lib.hid (fun h12 => growM_bin (d := d) (l := x.drop (at_ + 1)) hm h4 h12)
  obtain ⟨kd, pn, ps, st, f⟩ := p
  simp only at c0 c1 c2 c3 c4 HM HG13 HG12 h4 hb
  have HOF := fun a b w => Lib.hid (of_any kd a b ⟨h4, hb.2⟩ w)
  have d1 : decide ((at_ : Int) ≥ (n : Int)) = false := by simp; omega
  have d2 : (((d : Int) + 1) == 0) = false := by rw [beq_eq_false_iff_ne]; omega
  have d3 : (kd == 1) = false := by rw [beq_eq_false_iff_ne]; omega
  have d4 : (kd == 2) = false := by rw [beq_eq_false_iff_ne]; omega
  have d5 : (kd == 3) = false := by rw [beq_eq_false_iff_ne]; omega
  have b0 : (0 : Int) ≤ (at_ : Int) := by omega
  have b1 : (at_ : Int) < (n : Int) := by omega
  have hKO := fun w hA => Lib.hid (IH (at_ + 1) (.slice (some ⟨bk, o, none⟩) n cap) w (by omega) hA)
  have ec : ((at_ + 1 : Nat) : Int) = (at_ : Int) + 1 := by omega
  rw [ec, hn] at hKO
  have hH4 := Lib.hid (And.intro h4 hb.2)
  have HGR := Lib.hid (fun (t : Ex) (r : List PartR) (h : growM d (x.drop (at_ + 1)) = some (t, r)) => growM_rest h (by omega))
  clear hp hm hsl hok h2 hdrop h4 hb hn IH
  generalize hg : growM d (x.drop (at_ + 1)) = g at *
  go_enter Tryz.func26, Tryz.ntmps26
  go_wp2_with (go_at_call 42; refine (HM _).out.mono ?_; rintro e w2 ⟨rfl, hk2⟩; have c0 := hk2.cell c0 (by simp); have c1 := hk2.cell c1 (by simp); have c2 := hk2.cell c2 (by simp); have c3 := hk2.cell c3 (by simp); have c4 := hk2.cell c4 (by simp))
  have hk3 := hk2.alloc (.cells #[.int .i64 kd, .int .i64 pn, .string ps, .string st, .int .i64 f] 58 (0, 0))
  have hbT := heap_alloc_new w2 (.cells #[.int .i64 kd, .int .i64 pn, .string ps, .string st, .int .i64 f] 58 (0, 0))
  have HBT := Lib.hid hbT
  refine (hKO _ (HA.out.keep hk3)).out.mono ?_
  rintro e w4 ⟨hout, hk4⟩
  obtain ⟨t0, t1, t2, t3, t4, _⟩ := part_block (hk4.heap HBT.out (by simp))
  clear hbT c0 c1 c2 c3 c4 HM
  cases g with
  | none =>
    obtain ⟨q, dd, rfl, hq, hdd⟩ := hout.none_form
    have HO := HOF 0 0 w4
    rw [ofM_zero kd hH4.out] at HO
    have wr1 : IntKind.i64.wrap ((dd : Int) + 1) = (dd : Int) + 1 := IntWalk.i64_in _ (by omega)
    have hnone : growM (d + 1) (⟨kd, pn, ps, st, f⟩ :: x.drop (at_ + 1)) = none := by
      by_cases h13 : kd = 13
      · rw [HG13.out h13]; rfl
      · rw [HG12.out (by have := hH4.out.2; omega)]; rfl
    have HNO := Lib.hid hnone
    clear hnone HG13 HG12 HOF hKO hout
    go_wp2_with (go_at_call 43; refine HO.out.mono ?_; rintro e w5 ⟨rfl, rfl⟩)
    go_returns
    rw [HNO.out]
    exact ⟨⟨q, dd + 1, rfl, hq, by omega⟩, hk3.then hk4⟩
  | some g =>
    obtain ⟨a, x1⟩ := g
    obtain ⟨dd, rfl, hd1, hdd⟩ := hout.some_form
    have hak := growM_kind hg
    obtain ⟨hrest, hle⟩ := HGR.out a x1 rfl
    have dk : (a.kind != 0) = true := by rw [bne_iff_ne]; omega
    have HPL : Hid (∀ (q : PartR), (Ex.neg q a).parts.length = a.parts.length + 1 ∧ ∀ b : Ex, (Ex.bin q a b).parts.length = a.parts.length + b.parts.length + 1) := Lib.hid (fun q => ⟨by simp [Ex.parts], fun b => by simp [Ex.parts]⟩)
    obtain ⟨na, hna⟩ : ∃ na, a.parts.length = na := ⟨_, rfl⟩
    rw [hna] at hrest hle HPL
    rw [HN.out] at hle
    have HNA := Lib.hid hna
    obtain ⟨ak, hakk⟩ : ∃ ak, a.kind = ak := ⟨_, rfl⟩
    have HAK := Lib.hid hakk
    rw [hakk] at dk hak
    rw [hna, hakk]
    have wr1 : IntKind.i64.wrap ((dd : Int) + 1) = (dd : Int) + 1 := IntWalk.i64_in _ (by omega)
    by_cases h13 : kd = 13
    · subst h13
      have HGN := Lib.hid (HG13.out rfl)
      have HO := HOF ak 0 w4
      clear HG13 HG12 HOF hKO hout hrest d1 d2 hna hakk
      go_wp2_with (go_at_call 43; refine HO.out.mono ?_; rintro e w5 ⟨rfl, rfl⟩)
      go_returns
      refine ⟨?_, hk3.then hk4⟩
      rw [HGN.out]
      by_cases h3 : ak = 3
      · have e1 : negM ⟨13, pn, ps, st, f⟩ (some (a, x1)) = some (.neg ⟨13, pn, ps, st, f⟩ a, x1) := by simp only [negM]; rw [if_pos (by rw [HAK.out]; exact h3)]
        rw [e1]
        refine ⟨dd + 1, ?_, by omega, by omega⟩
        rw [(HPL.out _).1]
        have e2 : ofM 13 ak 0 = 3 := by simp [ofM, h3]
        have e3 : (Ex.neg ⟨13, pn, ps, st, f⟩ a).kind = 3 := rfl
        rw [e2, e3]
        have e4 : ((at_ + (na + 1) : Nat) : Int) = ((at_ + 1 + na : Nat) : Int) := by omega
        rw [e4]
        rfl
      · have e1 : negM ⟨13, pn, ps, st, f⟩ (some (a, x1)) = none := by simp only [negM]; rw [if_neg (by rw [HAK.out]; exact h3)]
        rw [e1]
        have e2 : ofM 13 ak 0 = 0 := by simp [ofM, h3]
        rw [e2]
        exact ⟨at_ + 1 + na, dd + 1, rfl, by omega, by omega⟩
    · have dn : (kd != 13) = true := by rw [bne_iff_ne]; exact h13
      have HGB := Lib.hid (HG12.out (by have := hH4.out.2; omega))
      have hK2 := Lib.hid (HI.out (at_ + 1 + na) (.slice (some ⟨bk, o, none⟩) n cap) w4 (by rw [HN.out]; exact hle) (HA.out.keep (hk3.then hk4)))
      rw [hrest, HN.out] at hK2
      clear HG13 HG12 hKO hout hrest d1 d2 hna hakk
      go_wp2_with fail
      refine hK2.out.mono ?_
      rintro e w6 ⟨hout2, hk6⟩
      obtain ⟨t0, t1, t2, t3, t4, _⟩ := part_block (hk6.heap (hk4.heap HBT.out (by simp)) (by simp))
      clear hK2
      cases hg2 : growM d x1 with
      | none =>
        rw [hg2] at hout2
        obtain ⟨q, d2, rfl, hq, hdd2⟩ := hout2.none_form
        have hnone : growM (d + 1) (⟨kd, pn, ps, st, f⟩ :: x.drop (at_ + 1)) = none := by rw [HGB.out]; simp only [binM]; rw [hg2]; rfl
        have hmx : max (dd : Int) (d2 : Int) = ((max dd d2 : Nat) : Int) := by omega
        have HNO := Lib.hid hnone
        clear hnone hout2 hg2 HOF
        go_wp2_with fail
        go_returns
        rw [HNO.out]
        exact ⟨⟨0, 0, rfl, by omega, by omega⟩, (hk3.then hk4).then hk6⟩
      | some g2 =>
        obtain ⟨b, x2⟩ := g2
        rw [hg2] at hout2
        obtain ⟨d2, rfl, hd2, hdd2⟩ := hout2.some_form
        have hbk := growM_kind hg2
        have dkb : (b.kind == 0) = false := by rw [beq_eq_false_iff_ne]; omega
        have hmx : max (dd : Int) (d2 : Int) = ((max dd d2 : Nat) : Int) := by omega
        obtain ⟨mx, hmx2⟩ : ∃ mx, max dd d2 = mx := ⟨_, rfl⟩
        rw [hmx2] at hmx
        have hm1 : 1 ≤ mx ∧ mx ≤ d := by omega
        have wr2 : IntKind.i64.wrap ((mx : Int) + 1) = (mx : Int) + 1 := IntWalk.i64_in _ (by omega)
        have hxb : at_ + 1 + na + b.parts.length ≤ n := by
          have h1 := growM_parts hg2
          have h2 := congrArg List.length h1
          rw [List.length_append] at h2
          have h3 := HGR.out a x1 rfl
          have h4 := congrArg List.length h3.1
          rw [List.length_drop] at h4
          have h5 := HNA.out
          have h6 := HN.out
          omega
        obtain ⟨bkk, hbkk⟩ : ∃ bkk, b.kind = bkk := ⟨_, rfl⟩
        have HBK := Lib.hid hbkk
        obtain ⟨nb, hnb⟩ : ∃ nb, b.parts.length = nb := ⟨_, rfl⟩
        have HNB := Lib.hid hnb
        rw [hbkk] at dkb
        rw [hbkk, hnb]
        rw [hnb] at hxb
        have HO := HOF ak bkk w6
        have HR : Hid (growM (d + 1) (⟨kd, pn, ps, st, f⟩ :: x.drop (at_ + 1)) = if ak = bkk ∧ (ak = (opAt kd).of_ ∨ ak = (opAt kd).other) then some (.bin ⟨kd, pn, ps, st, f⟩ a b, x2) else none) := Lib.hid (by
          rw [HGB.out]
          simp only [binM]
          rw [hg2]
          simp only [binM.bin2M, HAK.out, HBK.out])
        clear hout2 hg2 HOF HGB hmx2 hbk hbkk hnb hd1 hdd hd2 hdd2 wr1
        go_wp2_with (go_at_call 43; refine HO.out.mono ?_; rintro e w5 ⟨rfl, rfl⟩)
        go_returns
        refine ⟨?_, (hk3.then hk4).then hk6⟩
        rw [HR.out]
        have h12 : kd ≤ 12 := by have := hH4.out.2; omega
        by_cases hif : ak = bkk ∧ (ak = (opAt kd).of_ ∨ ak = (opAt kd).other)
        · rw [if_pos hif]
          refine ⟨mx + 1, ?_, by omega, by omega⟩
          rw [(HPL.out _).2 b, HNB.out]
          have e2 : ofM kd ak bkk = (opAt kd).is_ := by unfold ofM; rw [if_neg h13, if_pos ⟨hH4.out.1, h12, hif.1, hif.2⟩]
          have e3 : (Ex.bin ⟨kd, pn, ps, st, f⟩ a b).kind = (opAt kd).is_ := rfl
          rw [e2, e3]
          have e4 : ((at_ + (na + nb + 1) : Nat) : Int) = ((at_ + 1 + na + nb : Nat) : Int) := by omega
          rw [e4]
          rfl
        · rw [if_neg hif]
          have e2 : ofM kd ak bkk = 0 := by unfold ofM; rw [if_neg h13, if_neg (fun h => hif ⟨h.2.2.1, h.2.2.2⟩)]
          rw [e2]
          exact ⟨at_ + 1 + na + nb, mx + 1, rfl, hxb, by omega⟩

theorem kind_any (x : List PartR) (hok : ∀ p ∈ x, p.ok) (hxl : x.length ≤ 1000000) : ∀ (left : Nat), left ≤ 64 → KindIH x left
  | 0, _, at_, v, w, hat, hA => by
    refine (kind_bad x hok 0 at_ v w hat (by omega) (by omega) hA (.inr (.inl rfl))).mono ?_
    rintro e w' ⟨rfl, hk⟩
    exact ⟨⟨0, 0, rfl, by omega, by omega⟩, hk⟩
  | d + 1, hd, at_, v, w, hat, hA => by
    by_cases hend : at_ = x.length
    · refine (kind_bad x hok (d + 1) at_ v w hat (by omega) (by omega) hA (.inl hend)).mono ?_
      rintro e w' ⟨rfl, hk⟩
      rw [List.drop_eq_nil_of_le (by omega), growM_nil]
      exact ⟨⟨0, 0, rfl, by omega, by omega⟩, hk⟩
    · have hlt : at_ < x.length := by omega
      obtain ⟨p, hp⟩ : ∃ p, x[at_]? = some p := ⟨x[at_], List.getElem?_eq_getElem hlt⟩
      have hdrop : x.drop at_ = p :: x.drop (at_ + 1) := by
        rw [List.drop_eq_getElem_cons hlt]
        rw [List.getElem?_eq_getElem hlt] at hp
        cases hp
        rfl
      have hc : ((d + 1 : Nat) : Int) = (d : Int) + 1 := by omega
      cases hm : isM p with
      | false =>
        refine (kind_bad x hok (d + 1) at_ v w hat (by omega) (by omega) hA (.inr (.inr ⟨p, hp, hm⟩))).mono ?_
        rintro e w' ⟨rfl, hk⟩
        rw [hdrop, growM_not hm]
        exact ⟨⟨0, 0, rfl, by omega, by omega⟩, hk⟩
      | true =>
        rw [hc]
        by_cases h3 : p.kind ≤ 3
        · refine (kind_leaf x hok d at_ v w (by omega) (by omega) hA p hp hm h3).mono ?_
          rintro e w' ⟨rfl, hk⟩
          rw [hdrop, growM_leaf hm h3]
          exact ⟨⟨1, rfl, by omega, by omega⟩, hk⟩
        · exact kind_op x hok d at_ (kind_any x hok hxl d (by omega)) v w (by omega) hxl hA p hp hm (by omega)

set_option maxHeartbeats 2000000 in
set_option maxRecDepth 100000 in
theorem refCheck_any (x : List PartR) (v : Value) (w : World) (hok : ∀ p ∈ x, p.ok) (hA : ArgPart w v x) (hxl : x.length ≤ 9223372036854775807) :
    Calls Tryz.prog 10 #[v] w fun e w' => e = .returned (.tuple #[.int .i64 (checkK x), .int .i64 (checkE x)]) ∧ Keeps [] w w' := by
  have HA := Lib.hid hA
  obtain ⟨ao, cap, rfl, _, _⟩ := hA
  by_cases h200 : 200 < x.length
  · have hw := wholeM_long h200
    have d1 : decide ((x.length : Int) > 200) = true := by simp; omega
    unfold checkK checkE
    rw [hw]
    generalize x.length = n at *
    clear hw
    go_enter Tryz.func10, Tryz.ntmps10
    go_wp2_with fail
    go_returns
    exact ⟨rfl, Keeps.refl [] w⟩
  · have HK := Lib.hid (kind_any x hok (by omega) 32 (by decide) 0 _ w (by omega) HA.out)
    rw [List.drop_zero] at HK
    have d1 : decide ((x.length : Int) > 200) = false := by simp; omega
    obtain ⟨n, hn⟩ : ∃ n, x.length = n := ⟨_, rfl⟩
    rw [hn] at d1 HK ⊢
    cases hg : growM 32 x with
    | none =>
      rw [hg] at HK
      have hw := wholeM_none hg
      unfold checkK checkE
      rw [hw]
      clear hw hg
      go_enter Tryz.func10, Tryz.ntmps10
      go_wp2_with (go_at_call 26; refine HK.out.mono ?_; rintro e w2 ⟨hout, hk2⟩; obtain ⟨q, dd, hee, _, _⟩ := hout.none_form; subst hee)
      go_returns
      exact ⟨rfl, hk2⟩
    | some g =>
      obtain ⟨t, r⟩ := g
      rw [hg] at HK
      have hkk := growM_kind hg
      have hpl := congrArg List.length (growM_parts hg)
      rw [List.length_append, hn] at hpl
      have dk : (t.kind == 0) = false := by rw [beq_eq_false_iff_ne]; omega
      cases r with
      | nil =>
        have hw := wholeM_some (by omega) hg
        unfold checkK checkE
        rw [hw]
        simp only [List.length_nil, Nat.add_zero] at hpl
        have dn : ((n : Int) != (n : Int)) = false := by simp
        have HTL : Hid (0 + t.parts.length = n) := Lib.hid (by omega)
        clear hw hg hpl
        obtain ⟨tk, htk⟩ : ∃ tk, t.kind = tk := ⟨_, rfl⟩
        have HTK := Lib.hid htk
        rw [htk] at dk hkk
        dsimp only
        rw [htk]
        clear htk
        go_enter Tryz.func10, Tryz.ntmps10
        go_wp2_with (go_at_call 26; refine HK.out.mono ?_; rintro e w2 ⟨hout, hk2⟩; obtain ⟨dd, hee, _, _⟩ := hout.some_form; rw [HTL.out, HTK.out] at hee; subst hee)
        go_returns
        exact ⟨rfl, hk2⟩
      | cons p r =>
        have hw := wholeM_rest hg
        unfold checkK checkE
        rw [hw]
        simp only [List.length_cons] at hpl
        have dn : (((0 + t.parts.length : Nat) : Int) != (n : Int)) = true := by rw [bne_iff_ne]; omega
        clear hw hg
        obtain ⟨tl, htl⟩ : ∃ tl, 0 + t.parts.length = tl := ⟨_, rfl⟩
        rw [htl] at dn
        have HTL := Lib.hid htl
        clear htl hpl
        obtain ⟨tk, htk⟩ : ∃ tk, t.kind = tk := ⟨_, rfl⟩
        rw [htk] at dk hkk
        have HTK := Lib.hid htk
        clear htk
        go_enter Tryz.func10, Tryz.ntmps10
        go_wp2_with (go_at_call 26; refine HK.out.mono ?_; rintro e w2 ⟨hout, hk2⟩; obtain ⟨dd, hee, _, _⟩ := hout.some_form; rw [HTL.out, HTK.out] at hee; subst hee)
        go_returns
        exact ⟨rfl, hk2⟩

end Go.Proofs.YtefcmijobbgpbaaGreatDoor
