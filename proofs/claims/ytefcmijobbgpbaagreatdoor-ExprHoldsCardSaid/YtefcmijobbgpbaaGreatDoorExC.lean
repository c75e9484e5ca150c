/- Which words may name a stage; which parts may be. Conditions: those of each theorem. -/
import Derived.Test.YtefcmijobbgpbaaGreatDoorExB
import Derived.Test.YtefcmijobbgpbaaGreatDoorT5
namespace Go.Proofs.YtefcmijobbgpbaaGreatDoor
open Go.RowKit

theorem run_eqIn_part (w : World) (a n d a' n' d' : Int) (b c b' c' : ByteArray) :
    (Op.equalIn 10000 58 (.agg #[.int .i64 a, .int .i64 n, .string b, .string c, .int .i64 d]) (.agg #[.int .i64 a', .int .i64 n', .string b', .string c', .int .i64 d'])).run Tryz.prog w = .ok ((a == a') && ((n == n') && ((b.toList == b'.toList) && ((c.toList == c'.toList) && (d == d'))))) w := by
  rw [run_equalIn_struct w 9999 58 _ _ (by kernel_rfl) (by kernel_rfl)]
  simp only [Program.fieldsOf, Tryz.underlying58]
  simp [Op.eqFields, go_sem]
  by_cases h1 : a = a' <;> by_cases h2 : n = n' <;> by_cases h3 : b.toList = b'.toList <;> by_cases h4 : c.toList = c'.toList <;> by_cases h5 : d = d' <;> simp [h1, h2, h3, h4, h5]

theorem part_guard : Tryz.prog.eqGuardType Tryz.prog.depth 58 = false := by kernel_rfl

theorem stageM_bad {s : ByteArray} (h : TokBad s) : stageM s = false := by
  unfold stageM
  rcases h with h | ⟨p, c, h⟩
  · have : decide (s.size ≤ 262144) = false := by simp; omega
    rw [this]
    simp
  · rw [h]
    simp

theorem stageM_one {s : ByteArray} {t : Tok} {a : Nat} (h : toksOf s = .ok [(t, a)]) (hs : ¬ 262144 < s.size) :
    stageM s = (decide (t.kind = 1) && decide (t.s = s.data.toList) && decide (fieldI s < 0) && decide (s.data.toList ≠ bOr.data.toList) && decide (s.data.toList ≠ bAnd.data.toList) && decide (s.data.toList ≠ bNot.data.toList)) := by
  unfold stageM
  rw [h]
  have : decide (s.size ≤ 262144) = true := by simp; omega
  rw [this]
  simp

theorem stageM_other {s : ByteArray} {xs : List (Tok × Nat)} (h : toksOf s = .ok xs) (hn : xs.length ≠ 1) : stageM s = false := by
  unfold stageM
  rw [h]
  match xs, hn with
  | [], _ => simp
  | _ :: _ :: _, _ => simp

set_option maxHeartbeats 4000000 in
set_option maxRecDepth 100000 in
theorem stage_any (s : ByteArray) (w : World) (hG : GlobX w) :
    Calls Tryz.prog 87 #[.string s] w fun e w' => e = .returned (.bool (stageM s)) ∧ Keeps [] w w' := by
  have hk0 := Keeps.refl [] w
  have HG := Lib.hid hG
  clear hG
  have EQ := run_eqIn_fault
  have GD := fault_guard
  have HFd := fun w hG => Lib.hid (field_any s w hG)
  rcases tok_split s with hbad | ⟨hsz, xs, hT⟩
  · have HB := fun w hG => Lib.hid (tokens_fault hbad w hG)
    have HM := Lib.hid (stageM_bad hbad)
    clear hbad
    go_enter Tryz.func87, Tryz.ntmps87
    go_wp2_with fail
    refine (HB _ HG.out.glob).out.mono ?_
    rintro e w2 ⟨⟨p, c, rfl, hc⟩, hk2⟩
    have hkw := hk2.alloc (.cells #[.int .i64 p, .int .i64 c] 49 (0, 0))
    have d0 : ((p == 0) && (c == 0)) = false := by rw [hc]; simp
    clear hk2 hc
    go_wp2_with fail
    go_returns
    exact ⟨congrArg (fun z => Ending.returned (.bool z)) HM.out.symm, hkw⟩
  · obtain ⟨q, hq⟩ : ∃ q, xs.length = q := ⟨_, rfl⟩
    have HT1 := fun w hG => Lib.hid (tokens_new hsz hT hq w hG)
    by_cases h1 : q = 1
    · obtain ⟨t, a, rfl⟩ : ∃ t a, xs = [(t, a)] := by
        match xs, hq.trans h1 with
        | [(t, a)], _ => exact ⟨t, a, rfl⟩
      have HM := Lib.hid (stageM_one hT hsz)
      subst h1
      clear hT hq
      go_enter Tryz.func87, Tryz.ntmps87
      go_wp2_with fail
      refine (HT1 _ HG.out.glob).out.mono ?_
      rintro e w2 ⟨⟨g, cp, rfl, hN⟩, hk2⟩
      have hkw := hk2.alloc (.cells #[.int .i64 0, .int .i64 0] 49 (0, 0))
      have hcg := hN.cap
      have hcr := hN.room
      obtain ⟨c0, c1, c2, c3⟩ := (hN.is.keep ((Keeps.refl [] w2).alloc (.cells #[.int .i64 0, .int .i64 0] 49 (0, 0)))) 0 (tokR (t, a)) rfl
      simp only [Nat.zero_add, Nat.zero_mul, tokR] at c0 c1 c2 c3
      clear hk2 hN HT1
      go_wp2_with (go_at_call 110; refine (HFd _ (HG.out.keep hkw)).out.mono ?_; rintro e w4 ⟨rfl, hk4⟩)
      all_goals go_returns
      all_goals refine ⟨congrArg (fun z => Ending.returned (.bool z)) (Eq.trans ?_ HM.out.symm), ?_⟩
      all_goals first
        | exact hkw
        | exact hkw.then hk4
        | skip
      all_goals clear EQ GD HFd HM c0 c1 c2 c3 hkw hk0 HG hcg hcr
      all_goals simp only [← ByteArray.toList_eq]
      all_goals rw [Bool.eq_iff_iff]
      all_goals by_cases hq : t.kind = 1
      all_goals by_cases hf : fieldI s < 0
      all_goals first
        | (exfalso; omega)
        | simp_all [bOr, bAnd, bNot]
      all_goals (intros; omega)
    · have HM := Lib.hid (stageM_other hT (by omega))
      have d1 : (((q : Int) + 1) == 2) = false := by rw [beq_eq_false_iff_ne]; omega
      clear hT hq
      go_enter Tryz.func87, Tryz.ntmps87
      go_wp2_with fail
      refine (HT1 _ HG.out.glob).out.mono ?_
      rintro e w2 ⟨⟨g, cp, rfl, hN⟩, hk2⟩
      have hkw := hk2.alloc (.cells #[.int .i64 0, .int .i64 0] 49 (0, 0))
      clear hk2 hN
      go_wp2_with fail
      go_returns
      exact ⟨congrArg (fun z => Ending.returned (.bool z)) HM.out.symm, hkw⟩


/-- A part's == with the one that was wanted. -/
theorem part_eqB (p : PartR) (n f : Int) (s st : ByteArray) : ((p.kind == p.kind) && ((p.n == n) && ((p.s.toList == s.toList) && ((p.stage.toList == st.toList) && (p.field == f))))) = (decide (p.n = n) && decide (p.s.data.toList = s.data.toList) && decide (p.stage.data.toList = st.data.toList) && decide (p.field = f)) := by
  simp only [ByteArray.toList_eq, beq_self_eq_true, Bool.true_and]
  rw [Bool.eq_iff_iff]
  simp only [Bool.and_eq_true, beq_iff_eq, decide_eq_true_eq]
  constructor
  · rintro ⟨h1, h2, h3, h4⟩; exact ⟨⟨⟨h1, h2⟩, h3⟩, h4⟩
  · rintro ⟨⟨⟨h1, h2⟩, h3⟩, h4⟩; exact ⟨h1, h2, h3, h4⟩

theorem join_form {l : List TokR} {v : Value} (w : World) (hG : Glob w) (hok : ∀ x ∈ l, x.ok) (hA : ArgTok w v l) :
    Calls Tryz.prog 27 #[v] w fun e w' => e = .returned (.tuple #[.string (joinS (joinM l)), .int .i64 (joinC (joinM l))]) ∧ Keeps [] w w' :=
  (join_arg w hG hok hA).mono fun _ _ ⟨h1, h2⟩ => ⟨h1.form, h2⟩

theorem textM_eq (s : ByteArray) : textM s = decide (joinC (joinM [⟨3, s, 0, 0⟩]) = 0) := by
  unfold textM
  cases h : joinM [⟨3, s, 0, 0⟩] with
  | ok b => simp [joinC]
  | error c => rcases joinM_bad h with rfl | rfl <;> simp [joinC]

theorem part_block {w : World} {B : Nat} {a b c d e : Value} {t : TypeId} (h : w.heap[B]? = some (.cells #[a, b, c, d, e] t)) :
    w.cell? ⟨B, 0, none⟩ = some a ∧ w.cell? ⟨B, 1, none⟩ = some b ∧ w.cell? ⟨B, 2, none⟩ = some c ∧ w.cell? ⟨B, 3, none⟩ = some d ∧ w.cell? ⟨B, 4, none⟩ = some e ∧
      w.frozen? ⟨B, 0, none⟩ = false ∧ w.frozen? ⟨B, 1, none⟩ = false ∧ w.frozen? ⟨B, 2, none⟩ = false ∧ w.frozen? ⟨B, 3, none⟩ = false ∧ w.frozen? ⟨B, 4, none⟩ = false := by
  simp [World.cell?, World.frozen?, h]

theorem argTok_new (w : World) (k n a : Int) (s : ByteArray) : ArgTok (w.alloc (.cells #[.int .i64 k, .string s, .int .i64 n, .int .i64 a] 91 (0, 0))) (.slice (some ⟨w.heap.size, 0, none⟩) 1 1) [⟨k, s, n, a⟩] := by
  refine ⟨_, _, rfl, (fun e => nomatch e), fun _ => ⟨w.heap.size, 0, rfl, ?_, Nat.le_refl _, by simp⟩⟩
  intro j y hj
  have hj0 : j = 0 := by
    rcases Nat.eq_zero_or_pos j with h | h
    · exact h
    · rw [List.getElem?_eq_none (by simp; omega)] at hj; cases hj
  subst hj0
  cases hj
  obtain ⟨z0, z1, z2, z3, _⟩ := tok_block (heap_alloc_new w (.cells #[.int .i64 k, .string s, .int .i64 n, .int .i64 a] 91 (0, 0)))
  exact ⟨z0, z1, z2, z3⟩

set_option maxHeartbeats 4000000 in
set_option maxRecDepth 100000 in
theorem is_any (p : PartR) (hp : p.ok) (w : World) (hG : GlobX w) :
    Calls Tryz.prog 57 #[.agg #[.int .i64 p.kind, .int .i64 p.n, .string p.s, .string p.stage, .int .i64 p.field]] w fun e w' => e = .returned (.bool (isM p)) ∧ Keeps [] w w' := by
  have hk0 := Keeps.refl [] w
  have HG := Lib.hid hG
  have HSt := fun w hG => Lib.hid (stage_any p.stage w hG)
  have EQ := Lib.hid run_eqIn_part
  have GD := Lib.hid part_guard
  obtain ⟨kd, n, s, st, f⟩ := p
  have HP := Lib.hid hp
  clear hG hp
  simp only at HSt ⊢
  by_cases h1 : kd = 1
  · subst h1
    have hI : isM ⟨1, n, s, st, f⟩ = (decide (0 ≤ n) && decide (s.toList = []) && decide (st.toList = []) && decide (f = 0)) := by
      simp only [isM, if_pos, ByteArray.toList_eq]
    rw [hI]
    clear hI
    by_cases hn : 0 ≤ n
    · have hm : max (0 : Int) n = n := by omega
      go_enter Tryz.func57, Tryz.ntmps57
      go_wp2_with fail
      all_goals go_returns
      all_goals refine ⟨congrArg (fun z => Ending.returned (.bool z)) ?_, ?_⟩
      all_goals first
        | exact (hk0.alloc _).alloc _
        | exact ((hk0.alloc _).alloc _).setCell (.inr (by simp)) _
        | skip
      all_goals simp_all
    · have hm : max (0 : Int) n = 0 := by omega
      have hn0 : (n == 0) = false := by rw [beq_eq_false_iff_ne]; omega
      go_enter Tryz.func57, Tryz.ntmps57
      go_wp2_with fail
      all_goals go_returns
      all_goals refine ⟨congrArg (fun z => Ending.returned (.bool z)) ?_, ?_⟩
      all_goals first
        | exact (hk0.alloc _).alloc _
        | exact ((hk0.alloc _).alloc _).setCell (.inr (by simp)) _
        | skip
      all_goals simp [show ¬ (0 : Int) ≤ n from by omega]
  · by_cases h2 : kd = 2
    · subst h2
      have hI : isM ⟨2, n, s, st, f⟩ = (textM s && decide (n = 0) && decide (st.toList = []) && decide (f = 0)) := by
        simp [isM, ByteArray.toList_eq]
      rw [hI, textM_eq]
      clear hI
      have HJ : ∀ (X : World) (k : Nat), X.heap.size = k → Glob (X.alloc (.cells #[.int .i64 3, .string s, .int .i64 0, .int .i64 0] 91 (0, 0))) → Hid (Calls Tryz.prog 27 #[.slice (some ⟨k, 0, none⟩) 1 1] (X.alloc (.cells #[.int .i64 3, .string s, .int .i64 0, .int .i64 0] 91 (0, 0))) fun e w' => e = .returned (.tuple #[.string (joinS (joinM [⟨3, s, 0, 0⟩])), .int .i64 (joinC (joinM [⟨3, s, 0, 0⟩]))]) ∧ Keeps [] (X.alloc (.cells #[.int .i64 3, .string s, .int .i64 0, .int .i64 0] 91 (0, 0))) w') := fun X k hX hG => by
        subst hX
        exact Lib.hid (join_form (X.alloc (.cells #[.int .i64 3, .string s, .int .i64 0, .int .i64 0] 91 (0, 0))) hG (by intro x hx; simp at hx; subst hx; exact ⟨by simp, by simp, HP.out.2.2.1⟩) (argTok_new X 3 0 0 s))
      generalize joinC (joinM [⟨3, s, 0, 0⟩]) = c at *
      generalize joinS (joinM [⟨3, s, 0, 0⟩]) = B at *
      go_enter Tryz.func57, Tryz.ntmps57
      go_wp2_with fail
      have hka := (hk0.alloc (.cells #[.int .i64 2, .int .i64 n, .string s, .string st, .int .i64 f] 58 (0, 0))).alloc (.cells #[.int .i64 2, .int .i64 0, .string ⟨#[]⟩, .string ⟨#[]⟩, .int .i64 0] 58 (0, 0))
      have hb1 := alloc_old (heap_alloc_new w (.cells #[.int .i64 2, .int .i64 n, .string s, .string st, .int .i64 f] 58 (0, 0))) (.cells #[.int .i64 2, .int .i64 0, .string ⟨#[]⟩, .string ⟨#[]⟩, .int .i64 0] 58 (0, 0))
      have hb3 := heap_alloc2_new w (.cells #[.int .i64 2, .int .i64 n, .string s, .string st, .int .i64 f] 58 (0, 0)) (.cells #[.int .i64 2, .int .i64 0, .string ⟨#[]⟩, .string ⟨#[]⟩, .int .i64 0] 58 (0, 0))
      obtain ⟨w2, hw2⟩ : ∃ w2, w2 = ((w.alloc (.cells #[.int .i64 2, .int .i64 n, .string s, .string st, .int .i64 f] 58 (0, 0))).alloc (.cells #[.int .i64 2, .int .i64 0, .string ⟨#[]⟩, .string ⟨#[]⟩, .int .i64 0] 58 (0, 0))) := ⟨_, rfl⟩
      have hs2 : w2.heap.size = w.heap.size + 1 + 1 := by rw [hw2]; simp
      rw [← hw2] at hka hb1 hb3 ⊢
      clear hw2
      have hkt := hka.alloc (.cells #[.int .i64 3, .string s, .int .i64 0, .int .i64 0] 91 (0, 0))
      refine (HJ w2 _ hs2 (HG.out.glob.keep hkt)).out.mono ?_
      rintro e w4 ⟨rfl, hk4⟩
      have hb1' := hk4.heap (alloc_old hb1 _) (by simp)
      have hb3' := hk4.heap (alloc_old hb3 _) (by simp)
      obtain ⟨c0, c1, c2, c3, c4, _⟩ := part_block hb1'
      obtain ⟨e0, e1, e2, e3, e4, z0, z1, z2, z3, z4⟩ := part_block hb3'
      have hkf := (hkt.then hk4).setCell (p := ⟨w.heap.size + 1, 2, none⟩) (.inr (by simp)) (.string s)
      obtain ⟨A, hA⟩ : ∃ A, A = w.heap.size := ⟨_, rfl⟩
      obtain ⟨D, hD⟩ : ∃ D, D = w.heap.size + 1 := ⟨_, rfl⟩
      have hne : A ≠ D := by omega
      rw [← hD] at e0 e1 e2 e3 e4 z0 z1 z2 z3 z4 hkf ⊢
      rw [← hA] at c0 c1 c2 c3 c4 ⊢
      clear hk4 hkt hb1 hb3 hb1' hb3' HJ hka hs2 hD hA HSt EQ GD
      go_wp2_with fail
      all_goals go_returns
      all_goals refine ⟨congrArg (fun z => Ending.returned (.bool z)) ?_, ?_⟩
      all_goals first
        | exact hkf
        | skip
      all_goals simp_all
    · by_cases h3 : kd = 3
      · subst h3
        have hI : isM ⟨3, n, s, st, f⟩ = (decide (n = 0) && decide (s.toList = []) && decide (0 ≤ f) && decide (f ≤ 5) && (decide (st.toList = []) || stageM st)) := by
          simp [isM, ByteArray.toList_eq]
        rw [hI]
        clear hI
        have hcase : f < 0 ∨ 5 < f ∨ (0 ≤ f ∧ f ≤ 5) := by omega
        rcases hcase with hf | hf | hf
        · have hm : max (0 : Int) f = 0 := by omega
          have hm2 : min (0 : Int) 5 = 0 := by omega
          have hf0 : (f == 0) = false := by rw [beq_eq_false_iff_ne]; omega
          go_enter Tryz.func57, Tryz.ntmps57
          go_wp2_with fail
          refine wp_region_chain (fun W' => W'.cell? ⟨w.heap.size, 3, none⟩ = some (.string st) ∧ W'.cell? ⟨w.heap.size, 4, none⟩ = some (.int .i64 f)) [9] [(0, 0), (1, 1), (2, 0), (3, 1), (4, 0), (5, 0), (6, 0), (7, 2), (8, 0), (9, 3)] (by kernel_rfl) (by kernel_rfl) (fun _ d _ _ _ h => by cases d <;> exact h) (by go_simp) ?_
          repeat (first
            | (refine wpC_pure (v := ?_) rfl (by rfl) ?_ ?_
               rotate_left 1
               · (intro w; go_simp; try with_reducible rfl)
               try simp only [Act.put, List.setIfInBounds_toArray, List.set_cons_zero, List.set_cons_succ, List.getElem_toArray, List.getElem_cons_succ, List.getElem_cons_zero])
            | (refine wpC_held (v := ?_) rfl (by rfl) ?_ ?_
               rotate_left 1
               · (rintro w ⟨x0, x1⟩; go_simp; try with_reducible rfl)
               try simp only [Act.put, List.setIfInBounds_toArray, List.set_cons_zero, List.set_cons_succ, List.getElem_toArray, List.getElem_cons_succ, List.getElem_cons_zero]))
          refine wpC_step rfl (by rfl) (fun K hK => ?_)
          go_simp
          refine hK _ _ (by go_simp) ?_
          clear hK K
          try simp only [Act.put, List.setIfInBounds_toArray, List.set_cons_zero, List.set_cons_succ, List.getElem_toArray, List.getElem_cons_succ, List.getElem_cons_zero]
          repeat (first
            | (refine wpC_pure (v := ?_) rfl (by rfl) ?_ ?_
               rotate_left 1
               · (intro w; go_simp; try with_reducible rfl)
               try simp only [Act.put, List.setIfInBounds_toArray, List.set_cons_zero, List.set_cons_succ, List.getElem_toArray, List.getElem_cons_succ, List.getElem_cons_zero]))
          refine wpC_last rfl (by rfl) (fun K hK => ?_)
          go_simp
          refine hK _ _ ?_
          clear hK K
          try simp only [Act.put, List.setIfInBounds_toArray, List.set_cons_zero, List.set_cons_succ, List.getElem_toArray, List.getElem_cons_succ, List.getElem_cons_zero]
          refine wpC_nil ?_
          go_wp2_with fail
          go_wp2_with fail
          all_goals go_returns
          all_goals refine ⟨congrArg (fun z => Ending.returned (.bool z)) ?_, ?_⟩
          all_goals first
            | exact (hk0.alloc _).alloc _
            | exact ((hk0.alloc _).alloc _).drew
            | skip
          all_goals simp [show ¬ (0 : Int) ≤ f from by omega]
        · have hm : max (0 : Int) f = f := by omega
          have hm2 : min f (5 : Int) = 5 := by omega
          have hf0 : (f == 5) = false := by rw [beq_eq_false_iff_ne]; omega
          go_enter Tryz.func57, Tryz.ntmps57
          go_wp2_with fail
          refine wp_region_chain (fun W' => W'.cell? ⟨w.heap.size, 3, none⟩ = some (.string st) ∧ W'.cell? ⟨w.heap.size, 4, none⟩ = some (.int .i64 f)) [9] [(0, 0), (1, 1), (2, 0), (3, 1), (4, 0), (5, 0), (6, 0), (7, 2), (8, 0), (9, 3)] (by kernel_rfl) (by kernel_rfl) (fun _ d _ _ _ h => by cases d <;> exact h) (by go_simp) ?_
          repeat (first
            | (refine wpC_pure (v := ?_) rfl (by rfl) ?_ ?_
               rotate_left 1
               · (intro w; go_simp; try with_reducible rfl)
               try simp only [Act.put, List.setIfInBounds_toArray, List.set_cons_zero, List.set_cons_succ, List.getElem_toArray, List.getElem_cons_succ, List.getElem_cons_zero])
            | (refine wpC_held (v := ?_) rfl (by rfl) ?_ ?_
               rotate_left 1
               · (rintro w ⟨x0, x1⟩; go_simp; try with_reducible rfl)
               try simp only [Act.put, List.setIfInBounds_toArray, List.set_cons_zero, List.set_cons_succ, List.getElem_toArray, List.getElem_cons_succ, List.getElem_cons_zero]))
          refine wpC_step rfl (by rfl) (fun K hK => ?_)
          go_simp
          refine hK _ _ (by go_simp) ?_
          clear hK K
          try simp only [Act.put, List.setIfInBounds_toArray, List.set_cons_zero, List.set_cons_succ, List.getElem_toArray, List.getElem_cons_succ, List.getElem_cons_zero]
          repeat (first
            | (refine wpC_pure (v := ?_) rfl (by rfl) ?_ ?_
               rotate_left 1
               · (intro w; go_simp; try with_reducible rfl)
               try simp only [Act.put, List.setIfInBounds_toArray, List.set_cons_zero, List.set_cons_succ, List.getElem_toArray, List.getElem_cons_succ, List.getElem_cons_zero]))
          refine wpC_last rfl (by rfl) (fun K hK => ?_)
          go_simp
          refine hK _ _ ?_
          clear hK K
          try simp only [Act.put, List.setIfInBounds_toArray, List.set_cons_zero, List.set_cons_succ, List.getElem_toArray, List.getElem_cons_succ, List.getElem_cons_zero]
          refine wpC_nil ?_
          go_wp2_with fail
          all_goals go_returns
          all_goals refine ⟨congrArg (fun z => Ending.returned (.bool z)) ?_, ?_⟩
          all_goals first
            | exact (hk0.alloc _).alloc _
            | exact ((hk0.alloc _).alloc _).drew
            | skip
          all_goals simp [show ¬ f ≤ (5 : Int) from by omega]
        · have hm : max (0 : Int) f = f := by omega
          have hm2 : min f (5 : Int) = f := by omega
          go_enter Tryz.func57, Tryz.ntmps57
          go_wp2_with fail
          refine wp_region_chain (fun W' => W'.cell? ⟨w.heap.size, 3, none⟩ = some (.string st) ∧ W'.cell? ⟨w.heap.size, 4, none⟩ = some (.int .i64 f)) [9] [(0, 0), (1, 1), (2, 0), (3, 1), (4, 0), (5, 0), (6, 0), (7, 2), (8, 0), (9, 3)] (by kernel_rfl) (by kernel_rfl) (fun _ d _ _ _ h => by cases d <;> exact h) (by go_simp) ?_
          repeat (first
            | (refine wpC_pure (v := ?_) rfl (by rfl) ?_ ?_
               rotate_left 1
               · (intro w; go_simp; try with_reducible rfl)
               try simp only [Act.put, List.setIfInBounds_toArray, List.set_cons_zero, List.set_cons_succ, List.getElem_toArray, List.getElem_cons_succ, List.getElem_cons_zero])
            | (refine wpC_held (v := ?_) rfl (by rfl) ?_ ?_
               rotate_left 1
               · (rintro w ⟨x0, x1⟩; go_simp; try with_reducible rfl)
               try simp only [Act.put, List.setIfInBounds_toArray, List.set_cons_zero, List.set_cons_succ, List.getElem_toArray, List.getElem_cons_succ, List.getElem_cons_zero]))
          refine wpC_step rfl (by rfl) (fun K hK => ?_)
          go_simp
          refine hK _ _ (by go_simp) ?_
          clear hK K
          try simp only [Act.put, List.setIfInBounds_toArray, List.set_cons_zero, List.set_cons_succ, List.getElem_toArray, List.getElem_cons_succ, List.getElem_cons_zero]
          repeat (first
            | (refine wpC_pure (v := ?_) rfl (by rfl) ?_ ?_
               rotate_left 1
               · (intro w; go_simp; try with_reducible rfl)
               try simp only [Act.put, List.setIfInBounds_toArray, List.set_cons_zero, List.set_cons_succ, List.getElem_toArray, List.getElem_cons_succ, List.getElem_cons_zero]))
          refine wpC_last rfl (by rfl) (fun K hK => ?_)
          go_simp
          refine hK _ _ ?_
          clear hK K
          try simp only [Act.put, List.setIfInBounds_toArray, List.set_cons_zero, List.set_cons_succ, List.getElem_toArray, List.getElem_cons_succ, List.getElem_cons_zero]
          refine wpC_nil ?_
          go_wp2_with (go_at_call 87; refine (HSt _ (HG.out.keep ((hk0.alloc _).alloc _).drew)).out.mono ?_; rintro e w4 ⟨rfl, hk4⟩)
          all_goals go_returns
          all_goals refine ⟨congrArg (fun z => Ending.returned (.bool z)) ?_, ?_⟩
          all_goals first
            | exact ((hk0.alloc _).alloc _).drew
            | exact (((hk0.alloc _).alloc _).drew).then hk4
            | skip
          all_goals simp_all
      · have hI : isM ⟨kd, n, s, st, f⟩ = (decide (4 ≤ kd) && decide (kd ≤ 13) && decide (n = 0) && decide (s.toList = []) && decide (st.toList = []) && decide (f = 0)) := by
          simp [isM, h1, h2, h3, ByteArray.toList_eq]
        rw [hI]
        clear hI
        have d1 : (kd == 1) = false := by rw [beq_eq_false_iff_ne]; exact h1
        have d2 : (kd == 2) = false := by rw [beq_eq_false_iff_ne]; exact h2
        have d3 : (kd == 3) = false := by rw [beq_eq_false_iff_ne]; exact h3
        go_enter Tryz.func57, Tryz.ntmps57
        go_wp2_with fail
        all_goals go_returns
        all_goals refine ⟨congrArg (fun z => Ending.returned (.bool z)) ?_, ?_⟩
        all_goals first
          | exact (hk0.alloc _).alloc _
          | skip
        all_goals clear EQ GD HSt
        all_goals by_cases hk4 : 4 ≤ kd
        all_goals first
          | (exfalso; omega)
          | simp_all
        all_goals (intros; omega)

end Go.Proofs.YtefcmijobbgpbaaGreatDoor
