/- Read. Conditions: those of each theorem. -/
import Derived.Test.YtefcmijobbgpbaaGreatDoorExZ
namespace Go.Proofs.YtefcmijobbgpbaaGreatDoor
open Go.RowKit

/-- What a text is read as: a place and a code, or parts. -/
def readToks (l : List TokR) (n : Nat) : Except (Int × Int) (List PartR) :=
  match runM l (parseFuel n) none 0 0 0 with
  | .stuck a => .error (a, 110)
  | .ok x k' => match wholeM x with
    | none => .error (0, 110)
    | some _ => if (tokAt l k').kind = 0 then .ok x else .error ((tokAt l k').at_, 110)

def readM (s : ByteArray) : Except (Int × Int) (List PartR) :=
  if 262144 < s.size then .error (0, 2)
  else match toksOf s with
    | .error (p, c) => .error ((p : Int), c)
    | .ok xs => readToks (toksR xs s.size) xs.length

def ReadOut (B : Nat) (r : Except (Int × Int) (List PartR)) (e : Ending) (w' : World) : Prop :=
  match r with
  | .error (p, c) => e = .returned (.tuple #[.slice none 0 0, .agg #[.int .i64 p, .int .i64 c]])
  | .ok x => ∃ ao q cp, e = .returned (.tuple #[.slice ao q cp, .agg #[.int .i64 0, .int .i64 0]]) ∧ x.length = q ∧ w'.ownsRow B 58 5 (.slice ao q cp) q (partsRow x)

theorem readM_code {s : ByteArray} {p c : Int} (h : readM s = .error (p, c)) : c ≠ 0 := by
  unfold readM at h
  split at h
  · cases h; decide
  · split at h
    · rename_i p' c' ht
      cases h
      rcases lexAll_code _ _ _ _ ht with rfl | rfl <;> decide
    · unfold readToks at h
      split at h
      · cases h; decide
      · split at h
        · cases h; decide
        · split at h
          · cases h
          · cases h; decide

theorem tokAt_toksR {xs : List (Tok × Nat)} {sz k : Nat} (h : k < xs.length) : ∃ q ∈ xs, tokAt (toksR xs sz) k = tokR q := by
  refine ⟨xs[k], List.getElem_mem h, ?_⟩
  have h1 : (toksR xs sz)[k]? = some (tokR xs[k]) := by
    unfold toksR
    rw [List.getElem?_append_left (by simpa using h), List.getElem?_map, List.getElem?_eq_getElem h]
    rfl
  unfold tokAt
  rw [List.getD_eq_getElem?_getD, h1]
  rfl

theorem tokAt_last (xs : List (Tok × Nat)) (sz : Nat) : tokAt (toksR xs sz) xs.length = ⟨0, ⟨#[]⟩, 0, sz⟩ := by
  have h1 : (toksR xs sz)[xs.length]? = some ⟨0, ⟨#[]⟩, 0, sz⟩ := by simp [toksR]
  unfold tokAt
  rw [List.getD_eq_getElem?_getD, h1]
  rfl

theorem parse_in {w w' : World} {g cp : Nat} {s : ByteArray} {xs : List (Tok × Nat)} (hG : GlobX w') (hT : toksOf s = .ok xs) (hN : NewTok w w' g (toksR xs s.size) (xs.length + 1) cp) : ParseIn w' g 0 xs.length cp (toksR xs s.size) s.size := by
  have h1 := toks_single hT
  refine ⟨hG, hN.is, toksR_length xs _, h1.1, hN.cap, hN.room, ?_, tokAt_last xs _, ?_⟩
  · intro x hx
    unfold toksR at hx
    rcases List.mem_append.1 hx with hx | hx
    · obtain ⟨q, hq, rfl⟩ := List.mem_map.1 hx
      exact (h1.2 q hq).2.1
    · simp only [List.mem_singleton] at hx
      subst hx
      exact ⟨by simp, by simp, by simp [ByteArray.size]⟩
  · intro k hk
    obtain ⟨q, hq, he⟩ := tokAt_toksR (sz := s.size) hk
    obtain ⟨i1, _, a, i3⟩ := h1.2 q hq
    rw [he, i3]
    exact ⟨i1, rfl⟩

theorem ParseIn.keep {w w' : World} {bk o n cap : Nat} {l : List TokR} {sz : Int} (c : ParseIn w bk o n cap l sz) (k : Keeps [] w w') : ParseIn w' bk o n cap l sz :=
  ⟨c.glob.keep k, fun j x hx => by obtain ⟨h0, h1, h2, h3⟩ := c.toks j x hx; exact ⟨k.cell h0 (by simp), k.cell h1 (by simp), k.cell h2 (by simp), k.cell h3 (by simp)⟩, c.len, c.few, c.room, c.big, c.ok, c.last, c.good⟩

theorem tokens_out {s : ByteArray} (w : World) (hG : Glob w) {p c : Int} (h : (262144 < s.size ∧ p = 0 ∧ c = 2) ∨ (¬ 262144 < s.size ∧ ∃ q : Nat, toksOf s = .error (q, c) ∧ p = q)) :
    Calls Tryz.prog 38 #[.string s] w fun e w' => e = .returned (.tuple #[.slice none 0 0, .agg #[.int .i64 p, .int .i64 c]]) ∧ Keeps [] w w' :=
  (tokens_any s w hG).mono fun e w' ⟨h1, hk⟩ => ⟨by
    unfold TokensOut at h1
    rcases h with ⟨hs, rfl, rfl⟩ | ⟨hs, q, ht, rfl⟩
    · rw [if_pos hs] at h1
      exact h1
    · rw [if_neg hs, ht] at h1
      exact h1, hk⟩

set_option maxHeartbeats 8000000 in
set_option maxRecDepth 100000 in
theorem read_fault {s : ByteArray} (w : World) (hG : GlobX w) {p c : Int} (h : (262144 < s.size ∧ p = 0 ∧ c = 2) ∨ (¬ 262144 < s.size ∧ ∃ q : Nat, toksOf s = .error (q, c) ∧ p = q)) (hc : c ≠ 0) :
    Calls Tryz.prog 22 #[.string s] w fun e w' => e = .returned (.tuple #[.slice none 0 0, .agg #[.int .i64 p, .int .i64 c]]) ∧ Keeps [] w w' := by
  have hk0 := Keeps.refl [] w
  have EQ := run_eqIn_fault
  have GD := fault_guard
  have HG := Lib.hid hG
  have hka := hk0.alloc (.cells #[.int .i64 0, .int .i64 0] 49 (0, 0))
  have hT3 := heap_alloc_new w (.cells #[.int .i64 0, .int .i64 0] 49 (0, 0))
  have HT := Lib.hid (tokens_out _ (hG.keep hka).glob h)
  have d0 : ((p == 0) && (c == 0)) = false := by
    have : (c == 0) = false := by rw [beq_eq_false_iff_ne]; exact hc
    rw [this, Bool.and_false]
  clear hG h hc
  go_enter Tryz.func22, Tryz.ntmps22
  go_wp2_with fail
  refine HT.out.mono ?_
  rintro e w2 ⟨rfl, hk2⟩
  have hk3 := (hka.then hk2).alloc (.cells #[.int .i64 p, .int .i64 c] 49 (0, 0))
  have hb3' := alloc_old (hk2.heap hT3 (by simp)) (.cells #[.int .i64 p, .int .i64 c] 49 (0, 0))
  have hb5' := heap_alloc_new w2 (.cells #[.int .i64 p, .int .i64 c] 49 (0, 0))
  have hs2 : w.heap.size < w2.heap.size := heap_lt (hk2.heap hT3 (by simp))
  clear hka hT3 HT
  go_wp2_with fail
  obtain ⟨T5, hT5⟩ : ∃ T5, T5 = w2.heap.size := ⟨_, rfl⟩
  obtain ⟨w4, hw4⟩ : ∃ w4, w4 = w2.alloc (.cells #[.int .i64 p, .int .i64 c] 49 (0, 0)) := ⟨_, rfl⟩
  rw [← hw4, ← hT5] at hb5'
  rw [← hw4] at hb3' hk3
  rw [← hw4, ← hT5]
  have hne : ¬ T5 = w.heap.size := by omega
  have hne2 : ¬ w.heap.size = T5 := by omega
  obtain ⟨p0, p1, _, _⟩ := fault_block hb5'
  obtain ⟨z0, z1, y0, y1⟩ := fault_block hb3'
  have hb3 := hb3'
  have hkw := hk3
  clear hw4 hT5 hs2 hk2
  refine wp_region_chain (fun W' => W'.cell? ⟨T5, 0, none⟩ = some (.int .i64 p) ∧ W'.cell? ⟨T5, 1, none⟩ = some (.int .i64 c)) [2] [(0, 1), (1, 0), (2, 3)] (by kernel_rfl) (by kernel_rfl) (fun _ d _ _ _ h => by cases d <;> exact h) ⟨show w4.drew.cell? _ = _ from p0, show w4.drew.cell? _ = _ from p1⟩ ?_
  repeat (first
    | (refine wpC_pure (v := ?_) rfl (by rfl) ?_ ?_
       rotate_left 1
       · (intro w; go_simp; try with_reducible rfl)
       try simp only [Act.put, List.setIfInBounds_toArray, List.set_cons_zero, List.set_cons_succ, List.getElem_toArray, List.getElem_cons_succ, List.getElem_cons_zero])
    | (refine wpC_held (v := ?_) rfl (by rfl) ?_ ?_
       rotate_left 1
       · (rintro w ⟨hs0, hs1⟩; go_simp; try with_reducible rfl)
       try simp only [Act.put, List.setIfInBounds_toArray, List.set_cons_zero, List.set_cons_succ, List.getElem_toArray, List.getElem_cons_zero]))
  refine wpC_last rfl (by rfl) (fun K hK => ?_)
  go_simp
  refine hK _ _ ?_
  clear hK K
  try simp only [Act.put, List.setIfInBounds_toArray, List.set_cons_zero, List.set_cons_succ, List.getElem_toArray, List.getElem_cons_succ, List.getElem_cons_zero]
  refine wpC_nil ?_
  go_wp2_with fail
  refine ret_val_row rfl w.heap.size _ _ _ _ rfl (set2_block hb3 _ _) Tryz.underlying49 rfl (by kernel_rfl) rfl ?_
  exact ⟨rfl, ((hkw.setCell (.inr (Nat.le_refl _)) _).setCell (.inr (Nat.le_refl _)) _).drew⟩

theorem ParseOut.split {l : List TokR} {n B : Nat} {e : Ending} {w' : World} (h : ParseOut l n B e w') :
    (∃ a : Int, e = .returned (.tuple #[.slice none 0 0, .int .i64 0, .agg #[.int .i64 a, .int .i64 110]]) ∧ readToks l n = .error (a, 110)) ∨
      (∃ (x : List PartR) (k' : Nat) (ao : Option Addr) (q cp : Nat), e = .returned (.tuple #[.slice ao q cp, .int .i64 k', .agg #[.int .i64 0, .int .i64 0]]) ∧ x.length = q ∧ w'.ownsRow B 58 5 (.slice ao q cp) q (partsRow x) ∧ runM l (parseFuel n) none 0 0 0 = .ok x k' ∧ readToks l n = if (tokAt l k').kind = 0 then .ok x else .error ((tokAt l k').at_, 110)) := by
  unfold ParseOut at h
  unfold readToks
  cases hr : runM l (parseFuel n) none 0 0 0 with
  | stuck a =>
    rw [hr] at h
    exact .inl ⟨a, h, rfl⟩
  | ok x k' =>
    rw [hr] at h
    simp only at h ⊢
    cases hw : wholeM x with
    | none =>
      rw [hw] at h
      exact .inl ⟨0, h, rfl⟩
    | some t =>
      rw [hw] at h
      obtain ⟨ao, q, cp, h1, h2, h3⟩ := h
      exact .inr ⟨x, k', ao, q, cp, h1, h2, h3, rfl, rfl⟩

theorem ParseIn.ends {w : World} {bk o n cap : Nat} {l : List TokR} {sz : Int} (c : ParseIn w bk o n cap l sz) : ∀ k, n ≤ k → (tokAt l k).kind = 0 := fun k hk => by
  by_cases h : k = n
  · rw [h, c.last]
  · have := c.len
    unfold tokAt
    rw [List.getD_eq_getElem?_getD, List.getElem?_eq_none (by omega)]
    rfl

set_option maxHeartbeats 8000000 in
set_option maxRecDepth 100000 in
theorem read_good {s : ByteArray} {xs : List (Tok × Nat)} (hs : ¬ 262144 < s.size) (hT : toksOf s = .ok xs) (w : World) (hG : GlobX w) :
    Calls Tryz.prog 22 #[.string s] w fun e w' => ReadOut w.heap.size (readToks (toksR xs s.size) xs.length) e w' ∧ Keeps [] w w' := by
  have hk0 := Keeps.refl [] w
  have EQ := run_eqIn_fault
  have GD := fault_guard
  have HG := Lib.hid hG
  have hka := hk0.alloc (.cells #[.int .i64 0, .int .i64 0] 49 (0, 0))
  have hT3 := heap_alloc_new w (.cells #[.int .i64 0, .int .i64 0] 49 (0, 0))
  obtain ⟨n, hn⟩ : ∃ n, xs.length = n := ⟨_, rfl⟩
  have HT := Lib.hid (tokens_new hs hT hn _ (hG.keep hka).glob)
  have HTo := Lib.hid hT
  rw [hn]
  have HN := Lib.hid hn
  obtain ⟨l, hl⟩ : ∃ l, toksR xs s.size = l := ⟨_, rfl⟩
  rw [hl] at HT ⊢
  have HL := Lib.hid hl
  clear hG hT hn hs hl
  go_enter Tryz.func22, Tryz.ntmps22
  go_wp2_with fail
  refine HT.out.mono ?_
  rintro e w2 ⟨⟨g, cp, rfl, hN⟩, hk2⟩
  have hgl := hN.lt
  have hgn : w.heap.size < g := by have := hN.new; simp at this; omega
  rw [← HN.out, ← HL.out] at hN
  have HPI := Lib.hid (parse_in (HG.out.keep (hka.then hk2)) HTo.out hN)
  rw [HN.out, HL.out] at HPI
  have hk3 := (hka.then hk2).alloc (.cells #[.int .i64 0, .int .i64 0] 49 (0, 0))
  have hb3' := alloc_old (hk2.heap hT3 (by simp)) (.cells #[.int .i64 0, .int .i64 0] 49 (0, 0))
  have hb5' := heap_alloc_new w2 (.cells #[.int .i64 0, .int .i64 0] 49 (0, 0))
  have hs2 : w.heap.size < w2.heap.size := heap_lt (hk2.heap hT3 (by simp))
  have HPI := Lib.hid (HPI.out.keep ((Keeps.refl [] w2).alloc (.cells #[.int .i64 0, .int .i64 0] 49 (0, 0))))
  clear hka hT3 HT hk2 hN
  go_wp2_with fail
  obtain ⟨T5, hT5⟩ : ∃ T5, T5 = w2.heap.size := ⟨_, rfl⟩
  obtain ⟨w4, hw4⟩ : ∃ w4, w4 = w2.alloc (.cells #[.int .i64 0, .int .i64 0] 49 (0, 0)) := ⟨_, rfl⟩
  have hs4 : T5 < w4.heap.size := by rw [hw4, hT5]; simp
  rw [← hw4, ← hT5] at hb5'
  rw [← hw4] at hb3' hk3 HPI
  rw [← hw4, ← hT5]
  have hne : ¬ T5 = w.heap.size := by omega
  have hne2 : ¬ w.heap.size = T5 := by omega
  have hle : w.heap.size ≤ T5 := by omega
  have hgT : ¬ g = T5 := by omega
  have hgT2 : ¬ T5 = g := by omega
  have hgW : ¬ g = w.heap.size := by omega
  have hgW2 : ¬ w.heap.size = g := by omega
  clear hw4 hT5 hs2
  refine (parse_any HPI.out).mono ?_
  rintro e w5 ⟨hpo, hk5⟩
  have hb5 := hk5.heap hb5' (by simp)
  have hb3 := hk5.heap hb3' (by simp)
  have hk6 := hk3.then hk5
  obtain ⟨z0, z1, y0, y1⟩ := fault_block hb5
  rcases hpo.split with ⟨a, rfl, hrt⟩ | ⟨x, k', ao, q, cp', rfl, hq, hown, hrun, hrt⟩
  · have HRT := Lib.hid hrt
    clear hpo hb5' hb3' hk3 hk5 hrt
    go_wp2_with fail
    obtain ⟨W, hW⟩ : ∃ W, W = (w5.setCell ⟨T5, 0, none⟩ (.int .i64 a)).setCell ⟨T5, 1, none⟩ (.int .i64 110) := ⟨_, rfl⟩
    have hb5W : W.heap[T5]? = some (.cells #[.int .i64 a, .int .i64 110] 49 (0, 0)) := by rw [hW]; exact set2_block hb5 _ _
    have hb3W : W.heap[w.heap.size]? = some (.cells #[.int .i64 0, .int .i64 0] 49 (0, 0)) := by rw [hW]; exact heap_set_other (a := ⟨T5, 1, none⟩) (heap_set_other (a := ⟨T5, 0, none⟩) hb3 hne2) hne2
    have hkw : Keeps [] w W := by rw [hW]; exact (hk6.setCell (.inr hle) _).setCell (.inr hle) _
    rw [← hW]
    clear hW z0 z1 y0 y1 hb3 hb5 hk6
    have hb3 := hb3W
    obtain ⟨p0, p1, _, _⟩ := fault_block hb5W
    obtain ⟨z0, z1, y0, y1⟩ := fault_block hb3W
    refine wp_region_chain (fun W' => W'.cell? ⟨T5, 0, none⟩ = some (.int .i64 a) ∧ W'.cell? ⟨T5, 1, none⟩ = some (.int .i64 110)) [2] [(0, 1), (1, 0), (2, 3)] (by kernel_rfl) (by kernel_rfl) (fun _ d _ _ _ h => by cases d <;> exact h) ⟨show W.drew.cell? _ = _ from p0, show W.drew.cell? _ = _ from p1⟩ ?_
    repeat (first
      | (refine wpC_pure (v := ?_) rfl (by rfl) ?_ ?_
         rotate_left 1
         · (intro w; go_simp; try with_reducible rfl)
         try simp only [Act.put, List.setIfInBounds_toArray, List.set_cons_zero, List.set_cons_succ, List.getElem_toArray, List.getElem_cons_succ, List.getElem_cons_zero])
      | (refine wpC_held (v := ?_) rfl (by rfl) ?_ ?_
         rotate_left 1
         · (rintro w ⟨hs0, hs1⟩; go_simp; try with_reducible rfl)
         try simp only [Act.put, List.setIfInBounds_toArray, List.set_cons_zero, List.set_cons_succ, List.getElem_toArray, List.getElem_cons_zero]))
    refine wpC_last rfl (by rfl) (fun K hK => ?_)
    go_simp
    refine hK _ _ ?_
    clear hK K
    try simp only [Act.put, List.setIfInBounds_toArray, List.set_cons_zero, List.set_cons_succ, List.getElem_toArray, List.getElem_cons_succ, List.getElem_cons_zero]
    refine wpC_nil ?_
    go_wp2_with fail
    refine ret_val_row rfl w.heap.size _ _ _ _ rfl (set2_block hb3 _ _) Tryz.underlying49 rfl (by kernel_rfl) rfl ?_
    rw [HRT.out]
    exact ⟨rfl, ((hkw.setCell (.inr (Nat.le_refl _)) _).setCell (.inr (Nat.le_refl _)) _).drew⟩
  · have hmv := runM_moves HPI.out.ends (parseFuel n) none 0 0 0 hrun (by omega)
    have hkn : k' < n + 1 := by omega
    obtain ⟨t0, _, _, t3⟩ := pin_cells HPI.out hk5 hkn
    simp only [Nat.zero_add] at t0 t3
    have bk0 : (0 : Int) ≤ (k' : Int) := by omega
    have bk1 : (k' : Int) < (n : Int) + 1 := by omega
    obtain ⟨tk, htk⟩ : ∃ tk, (tokAt l k').kind = tk := ⟨_, rfl⟩
    obtain ⟨ta, hta⟩ : ∃ ta, (tokAt l k').at_ = ta := ⟨_, rfl⟩
    rw [htk] at t0 hrt
    rw [hta] at t3 hrt
    have HRT := Lib.hid hrt
    have HQ := Lib.hid hq
    have hob : ∀ b, Value.ownBlock (.slice ao q cp') = some b → T5 < b := fun b hb => by have := own_ge hown hb; omega
    have hownT := own_mono (own_set_two (B := T5) hown (.int .i64 0) (.int .i64 0) (fun h => Nat.lt_irrefl _ (hob _ h))) (show w.heap.size ≤ w4.heap.size by omega)
    have HOB := Lib.hid hob
    have HOT := Lib.hid hownT
    by_cases h0 : tk = 0
    · rw [if_pos h0] at HRT
      have d4 : (tk == 0) = true := by rw [h0]; rfl
      have hb3C : ((w5.setCell ⟨T5, 0, none⟩ (.int .i64 0)).setCell ⟨T5, 1, none⟩ (.int .i64 0)).heap[w.heap.size]? = some (.cells #[.int .i64 0, .int .i64 0] 49 (0, 0)) := heap_set_other (a := ⟨T5, 1, none⟩) (heap_set_other (a := ⟨T5, 0, none⟩) hb3 hne2) hne2
      have HB3 := Lib.hid hb3C
      clear h0 hpo hb5' hb3' hk3 hk5 hrt hrun hmv hq hown hob hownT htk hta
      clear hb3C
      go_wp2_with (refine wpList_store_row (by rfl) _ _ _ (by rfl) w.heap.size #[.int .i64 0, .int .i64 0] (by rfl) (by rfl) 49 #[.int .i64 0, .int .i64 0] HB3.out (by kernel_rfl) (by rfl) (by simp [Value.oneCell']) ?_)
      have hkw : Keeps [] w ((w5.setCell ⟨T5, 0, none⟩ (.int .i64 0)).setCell ⟨T5, 1, none⟩ (.int .i64 0)) := (hk6.setCell (.inr hle) _).setCell (.inr hle) _
      refine ret_val_row rfl w.heap.size _ _ _ _ rfl (setRow_heap _ _ _ _ _ _ HB3.out) Tryz.underlying49 rfl (by kernel_rfl) rfl ?_
      refine ⟨?_, hkw.setRow (.inr (Nat.le_refl _)) _⟩
      rw [HRT.out]
      exact ⟨ao, q, cp', rfl, HQ.out, own_kept HOT.out ((Keeps.refl [w.heap.size] _).setRow (.inl (by simp)) _) (fun b hb => by have := HOB.out _ hb; simp; omega)⟩
    · rw [if_neg h0] at HRT
      have d4 : (tk == 0) = false := by rw [beq_eq_false_iff_ne]; exact h0
      clear h0 hpo hb5' hb3' hk3 hk5 hrt hrun hmv hq hown hob hownT htk hta
      go_wp2_with fail
      obtain ⟨W, hW⟩ : ∃ W, W = (w5.setCell ⟨T5, 0, none⟩ (.int .i64 0)).setCell ⟨T5, 1, none⟩ (.int .i64 0) := ⟨_, rfl⟩
      have hb3 : W.heap[w.heap.size]? = some (.cells #[.int .i64 0, .int .i64 0] 49 (0, 0)) := by rw [hW]; exact heap_set_other (a := ⟨T5, 1, none⟩) (heap_set_other (a := ⟨T5, 0, none⟩) hb3 hne2) hne2
      have hkw : Keeps [] w W := by rw [hW]; exact (hk6.setCell (.inr hle) _).setCell (.inr hle) _
      have t3W : W.cell? ⟨g, k' * 4 + 3, none⟩ = some (.int .i64 ta) := by rw [hW]; exact cell_set_far (cell_set_far t3 hgT) hgT
      rw [← hW]
      clear hW z0 z1 y0 y1 hb5 hk6 t0 t3
      obtain ⟨z0, z1, y0, y1⟩ := fault_block hb3
      refine wp_region_chain (fun W' => W'.cell? ⟨g, k' * 4 + 3, none⟩ = some (.int .i64 ta)) [7] [(0, 0), (1, 0), (2, 0), (3, 0), (4, 1), (5, 0), (6, 0), (7, 3)] (by kernel_rfl) (by kernel_rfl) (fun _ d _ _ _ h => by cases d <;> exact h) (show W.drew.cell? _ = _ from t3W) ?_
      repeat (first
        | (refine wpC_pure (v := ?_) rfl (by rfl) ?_ ?_
           rotate_left 1
           · (intro w; go_simp; try with_reducible rfl)
           try simp only [Act.put, List.setIfInBounds_toArray, List.set_cons_zero, List.set_cons_succ, List.getElem_toArray, List.getElem_cons_succ, List.getElem_cons_zero])
        | (refine wpC_held (v := ?_) rfl (by rfl) ?_ ?_
           rotate_left 1
           · (rintro w hs0; go_simp; try with_reducible rfl)
           try simp only [Act.put, List.setIfInBounds_toArray, List.set_cons_zero, List.set_cons_succ, List.getElem_toArray, List.getElem_cons_succ, List.getElem_cons_zero]))
      refine wpC_last rfl (by rfl) (fun K hK => ?_)
      go_simp
      refine hK _ _ ?_
      clear hK K
      try simp only [Act.put, List.setIfInBounds_toArray, List.set_cons_zero, List.set_cons_succ, List.getElem_toArray, List.getElem_cons_succ, List.getElem_cons_zero]
      refine wpC_nil ?_
      go_wp2_with fail
      refine ret_val_row rfl w.heap.size _ _ _ _ rfl (set2_block hb3 _ _) Tryz.underlying49 rfl (by kernel_rfl) rfl ?_
      rw [HRT.out]
      exact ⟨rfl, ((hkw.setCell (.inr (Nat.le_refl _)) _).setCell (.inr (Nat.le_refl _)) _).drew⟩

/-- Read, of any text. -/
theorem read_any (s : ByteArray) (w : World) (hG : GlobX w) :
    Calls Tryz.prog 22 #[.string s] w fun e w' => ReadOut w.heap.size (readM s) e w' ∧ Keeps [] w w' := by
  unfold readM
  by_cases hs : 262144 < s.size
  · rw [if_pos hs]
    exact read_fault w hG (.inl ⟨hs, rfl, rfl⟩) (by decide)
  · rw [if_neg hs]
    cases hT : toksOf s with
    | error q =>
      obtain ⟨p, c⟩ := q
      exact read_fault w hG (.inr ⟨hs, p, hT, rfl⟩) (by rcases lexAll_code _ _ _ _ hT with rfl | rfl <;> decide)
    | ok xs => exact read_good hs hT w hG


end Go.Proofs.YtefcmijobbgpbaaGreatDoor
