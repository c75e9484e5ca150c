/- T4: contracts and plain laws of tokens, carried over from another seat. Conditions: those of each theorem. -/
import Derived.Test.YtefcmijobbgpbaaGreatDoorT3
import Derived.Lib.AppendStr
import Derived.Test.YtefcmijobbgpbaaGreatDoorT1

set_option maxRecDepth 100000

namespace Go.Proofs.YtefcmijobbgpbaaGreatDoor
open Go.RowKit

set_option maxHeartbeats 2000000 in
set_option maxRecDepth 100000 in
theorem join_none (ao : Option Addr) (cap : Nat) (w : World) :
    Calls Tryz.prog 27 #[.slice ao 0 cap] w fun e w' => JoinOut (joinM []) e ∧ Keeps [] w w' := by
  have hk0 := Keeps.refl [] w
  have HJ := fun w => Lib.hid (joinLib_any w w.heap.size none 0 0 [] ⟨rfl, .inl ⟨rfl, rfl⟩⟩ (by omega) (by simp [joinW]))
  have HM : Hid (joinM [] = .ok []) := Lib.hid rfl
  go_enter Tryz.func27, Tryz.ntmps27
  go_wp2_with fail
  go_loopw [5, 6, 50] (fun a b i wr => a = .slice none 0 0 ∧ b = .int .i64 0 ∧ i = .int .i64 0 ∧ wr = w) (fun _ _ _ _ => 0)
  case atStart => exact ⟨rfl, rfl, rfl, rfl⟩
  case round =>
    obtain ⟨rfl, rfl, rfl, rfl⟩ := hrel
    go_wp2_with (go_at_call 45; refine (HJ _).out.mono ?_; rintro e w2 ⟨rfl, hk2⟩)
    go_returns
    exact ⟨.good HM.out rfl, hk2⟩

theorem dec_len (n : Nat) (hn : n ≤ 9223372036854775807) : (Lib.decDigits n).length ≤ 21 := by
  have h := Lib.itoa_length_le (n : Int) (by omega) (by omega)
  unfold Lib.itoa at h
  rwa [if_neg (by omega), Int.toNat_natCast] at h

theorem conv_list (_S : List Nat) (ns : List Int) (w : World) (B n c : Nat) (hn : n = ns.length) (hB : w.heap[B]? = some (.cells (ns.map (Value.int .u8)).toArray 5 (0, 0))) :
    (convert 124 9 (.slice (some ⟨B, 0, none⟩) n c)).run Tryz.prog w = .ok (.string (ns.foldl (fun r n => r.push (UInt8.ofNat n.toNat)) ByteArray.empty)) w := by
  rw [run_convert_bytes_string w 124 9 5 _ _ _ Tryz.underlying124 Tryz.underlying5 Tryz.underlying9]
  subst hn
  refine run_bytesToString w _ _ _ _ ?_
  have h := run_loadCells_list (P := Tryz.prog) (w := w) ⟨B, 0, none⟩ (ns.map (Value.int .u8)) ?_
  · rw [List.length_map] at h
    exact h
  · intro j v hj
    rw [addr_add, cell_of_row _ B _ _ _ _ hB]
    rw [List.getElem?_toArray, Nat.zero_add]
    exact hj

set_option maxHeartbeats 2000000 in
set_option maxRecDepth 100000 in
theorem digits_any (n : Nat) (w : World) (hn : n ≤ 9223372036854775807) :
    Calls Tryz.prog 77 #[.int .i64 n] w fun e w' => e = .returned (.string ⟨(Lib.decDigits n).toArray⟩) ∧ Keeps [] w w' := by
  have hk0 := Keeps.refl [] w
  go_enter Tryz.func77, Tryz.ntmps77
  go_wp2_with fail
  go_loopw [0, 3] (fun m s wr => ∃ (k : Nat) (x : List UInt8), m = .int .i64 k ∧ s = .string ⟨x.toArray⟩ ∧ k ≤ 9223372036854775807 ∧ Hid (Lib.decDigits n = Lib.decDigits k ++ x) ∧ Keeps [] w wr) (fun m _ _ => (intOf m).toNat)
  case atStart => exact ⟨n, [], rfl, rfl, hn, Lib.hid (by simp), hk0⟩
  case round =>
    obtain ⟨k, x, rfl, rfl, hk, hd, hkw⟩ := hrel
    have hxl : x.length ≤ 21 := by
      have h1 := congrArg List.length hd.out
      have h2 := dec_len n hn
      rw [List.length_append] at h1
      omega
    obtain ⟨d, hdd⟩ : ∃ d : UInt8, d = UInt8.ofNat (48 + k % 10) := ⟨_, rfl⟩
    have hcv : (convert 124 9 (.slice (some ⟨wr.heap.size, 0, none⟩) 1 1)).run Tryz.prog (wr.alloc (.cells #[.int .u8 (48 + (k : Int) % 10)] 5)) = .ok (.string ⟨#[d]⟩) (wr.alloc (.cells #[.int .u8 (48 + (k : Int) % 10)] 5)) := by
      refine (conv_list [] [48 + (k : Int) % 10] (wr.alloc (.cells #[.int .u8 (48 + (k : Int) % 10)] 5)) wr.heap.size 1 1 rfl (heap_alloc_new _ _)).trans ?_
      have e : (48 + (k : Int) % 10).toNat = 48 + k % 10 := by omega
      show Result.ok (Value.string (ByteArray.mk #[UInt8.ofNat (48 + (k : Int) % 10).toNat])) _ = _
      rw [e, hdd]
    have HD := Lib.hid hdd
    clear hdd
    go_wp2_with fail
    · rename_i h0
      go_returns
      refine ⟨?_, hkw.alloc _⟩
      have h1 := eq_of_beq h0
      have hk10 : k < 10 := by omega
      have e : (⟨#[d]⟩ ++ ⟨x.toArray⟩ : ByteArray) = ⟨(Lib.decDigits n).toArray⟩ := by
        rw [hd.out, Lib.decDigits_one hk10, HD.out, Nat.mod_eq_of_lt hk10]
        apply ByteArray.ext
        simp
      exact congrArg (fun b => Ending.returned (.string b)) e
    · rename_i h0
      refine ⟨⟨k / 10, d :: x, by simp, ?_, by omega, Lib.hid ?_, hkw.alloc _⟩, ?_⟩
      · congr 1
      · rw [hd.out]
        have hk10 : ¬ k < 10 := by
          intro h
          rw [beq_eq_false_iff_ne] at h0
          omega
        conv => lhs; unfold Lib.decDigits
        rw [dif_neg hk10, ← HD.out]
        simp
      · rw [beq_eq_false_iff_ne] at h0
        simp only [intOf]
        omega

end Go.Proofs.YtefcmijobbgpbaaGreatDoor

namespace Go.Proofs.YtefcmijobbgpbaaGreatDoor
open Go.RowKit

theorem WrittenOut.of_no {K N : Int} {S r : ByteArray} {e : Ending} (h : writtenM K S.data.toList N = none) (he : e = .returned (.tuple #[.string r, .bool false])) : WrittenOut K S N e :=
  ⟨r, false, he, by rw [h]⟩

theorem lexOne_258 {l : List UInt8} {t : Tok} {k : Nat} (h : lexOne l = some (t, k)) : k ≤ 258 := by
  cases l with
  | nil => simp [lexOne] at h
  | cons c r =>
    by_cases h39 : c = 39
    · subst h39
      rw [lexOne, if_neg (by decide), if_neg (by decide), if_pos rfl] at h
      split at h
      · cases h; omega
      · cases h
    · simp only [lexOne, h39, if_false] at h
      split at h
      · split at h
        · cases h; omega
        · cases h
      · split at h
        · rename_i hd
          split at h
          · rename_i hq
            cases h
            have hlen : ((c :: r).take (spanN isDigit (c :: r))).length = spanN isDigit (c :: r) := by
              rw [List.length_take]
              have := spanN_le isDigit (c :: r)
              omega
            have hpos := span_pos (r := r) hd
            have hdec := dec_of_num (spanN isDigit r) ((c :: r).take (spanN isDigit (c :: r))) (by rw [hlen, hpos]) (span_all _) (by
              rcases hq.2 with h1 | h1
              · left
                rw [hpos, List.take_succ_cons]
                simpa using h1
              · exact .inr (hlen.trans h1))
            have hi := dec_len (numVal ((c :: r).take (spanN isDigit (c :: r)))) hq.1
            rw [hdec, hlen] at hi
            omega
          · cases h
        · split at h
          · split at h
            · cases h; omega
            · split at h
              · cases h
              · cases h; omega
          · cases h

/-- What is no number has none; what is one has no text. -/
theorem lexOne_parts {l : List UInt8} {t : Tok} {k : Nat} (h : lexOne l = some (t, k)) : (t.kind ≠ 2 → t.n = 0) ∧ (t.kind = 2 → t.s = []) := by
  cases l with
  | nil => simp [lexOne] at h
  | cons c r =>
    simp only [lexOne] at h
    split at h
    · split at h
      · cases h; exact ⟨fun _ => rfl, fun h => by cases h⟩
      · cases h
    · split at h
      · split at h
        · cases h; exact ⟨fun h => absurd rfl h, fun _ => rfl⟩
        · cases h
      · split at h
        · split at h
          · cases h; exact ⟨fun _ => rfl, fun h => by cases h⟩
          · cases h
        · split at h
          · split at h
            · cases h; exact ⟨fun _ => rfl, fun h => by cases h⟩
            · split at h
              · cases h
              · cases h; exact ⟨fun _ => rfl, fun h => by cases h⟩
          · cases h

theorem written_cand {K N : Int} {s x : List UInt8} (h : writtenM K s N = some x) : x = cand K s N := by
  unfold writtenM at h
  unfold cand
  generalize (if K = 2 then Lib.itoa N else if K = 3 then 39 :: (s ++ [39]) else s) = y at *
  simp only at h
  split at h
  · split at h
    · cases h; rfl
    · cases h
  · cases h

theorem no_long {K N : Int} {s : List UInt8} (h : 258 < (cand K s N).length) : writtenM K s N = none := by
  cases hw : writtenM K s N with
  | none => rfl
  | some x =>
    obtain ⟨t, hl, _⟩ := written_some hw
    have := lexOne_258 hl
    rw [written_cand hw] at this
    omega
theorem no_num {K N : Int} {s : List UInt8} (hK : K ≠ 2) (hN : N ≠ 0) : writtenM K s N = none := by
  cases hw : writtenM K s N with
  | none => rfl
  | some x =>
    obtain ⟨t, hl, hk, _, hn⟩ := written_some hw
    have := (lexOne_parts hl).1 (by omega)
    omega
theorem no_text {N : Int} {s : List UInt8} (hs : s ≠ []) : writtenM 2 s N = none := by
  cases hw : writtenM 2 s N with
  | none => rfl
  | some x =>
    obtain ⟨t, hl, hk, h2, hn⟩ := written_some hw
    exact absurd (h2.symm.trans ((lexOne_parts hl).2 (by omega))) hs
theorem no_neg {N : Int} {s : List UInt8} (hN : N < 0) : writtenM 2 s N = none := by
  cases hw : writtenM 2 s N with
  | none => rfl
  | some x =>
    obtain ⟨t, hl, hk, h2, hn⟩ := written_some hw
    omega
theorem no_empty {K N : Int} {s : List UInt8} (h : (cand K s N).length = 0) : writtenM K s N = none := by
  cases hw : writtenM K s N with
  | none => rfl
  | some x =>
    obtain ⟨t, hl, _⟩ := written_some hw
    have := lexOne_len hl
    rw [written_cand hw] at this
    omega

set_option maxHeartbeats 16000000 in
set_option maxRecDepth 100000 in
theorem refWritten_plain (K : Int) (N At : Int) (S : ByteArray) (w : World) (_hN : -9223372036854775808 ≤ N ∧ N ≤ 9223372036854775807) (hS : S.size ≤ 140737488351232) (h2 : K ≠ 2) (h3 : K ≠ 3) :
    Calls Tryz.prog 49 #[.agg #[.int .i64 K, .string S, .int .i64 N, .int .i64 At]] w fun e w' => WrittenOut K S N e ∧ Keeps [] w w' := by
  have hk0 := Keeps.refl [] w
  go_enter Tryz.func49, Tryz.ntmps49
  have hd2 : (K == 2) = false := by simp [h2]
  have hd2b : (K != 2) = true := by simp [h2]
  have hd3 : (K == 3) = false := by simp [h3]
  have hx : cand K S.data.toList N = S.data.toList := by unfold cand; rw [if_neg h2, if_neg h3]
  have hl0 : (cand K S.data.toList N).length = S.size := by rw [hx]; rfl
  by_cases he : S.size = 0
  · have HNo := Lib.hid (no_empty (hl0.trans he))
    have hnil : S = ⟨#[]⟩ := by
      apply ByteArray.ext
      exact Array.eq_empty_of_size_eq_zero he
    have hemp : S.toList.isEmpty = true := by rw [hnil, ByteArray.toList_eq]; rfl
    clear hx hl0 hnil h2 h3
    go_wp2_with fail
    go_returns
    exact ⟨.of_no HNo.out rfl, hk0.alloc _⟩
  · have hne : 0 < S.size := by omega
    have hemp := not_empty hne
    by_cases hlong : 258 < S.size
    · have HNo := Lib.hid (no_long (by rw [hl0]; exact hlong))
      have d1 : decide ((258 : Int) < (S.size : Int)) = true := by simp; omega
      clear hx hl0 h2 h3
      go_wp2_with fail
      go_returns
      exact ⟨.of_no HNo.out rfl, hk0.alloc _⟩
    · have d1 : decide ((258 : Int) < (S.size : Int)) = false := by simp; omega
      cases hn0 : (N != 0) with
      | true =>
        have HNo := Lib.hid (no_num (s := S.data.toList) h2 (bne_iff_ne.1 hn0))
        clear hx hl0 h2 h3
        go_wp2_with fail
        go_returns
        exact ⟨.of_no HNo.out rfl, hk0.alloc _⟩
      | false =>
        clear hl0 h2 h3 he
        cases hl : lexOne S.data.toList with
        | none =>
          have HX := Lib.hid hx
          have HL := Lib.hid hl
          have HOne := fun w => Lib.hid (refOne_any S 0 w hne (by omega))
          clear hx hl hne
          go_wp2_with (first
            | (go_at_call 78; refine (HOne _).out.mono ?_; rintro e w2 ⟨ho, hk2⟩; obtain ⟨a, b, n, d, E, rfl⟩ := ho.is_none (by simpa using HL.out); have hb2 := hk2.heap (heap_alloc_new w (.cells #[.int .i64 K, .string S, .int .i64 N, .int .i64 At] 91 (0, 0))) (by simp); have hlt2 := heap_lt hb2))
          have hkw := (hk0.alloc (.cells #[.int .i64 K, .string S, .int .i64 N, .int .i64 At] 91 (0, 0))).then hk2
          have hk3 := hkw.alloc (.cells #[.int .i64 a, .string b, .int .i64 n, .int .i64 d] 91 (0, 0))
          have hb4 := alloc_old hb2 (.cells #[.int .i64 a, .string b, .int .i64 n, .int .i64 d] 91 (0, 0))
          have hb5 := heap_alloc_new w2 (.cells #[.int .i64 a, .string b, .int .i64 n, .int .i64 d] 91 (0, 0))
          generalize (w2.alloc (.cells #[.int .i64 a, .string b, .int .i64 n, .int .i64 d] 91 (0, 0))) = w4 at *
          clear hb2
          obtain ⟨c0, c1, c2, c3, _, _, _, _⟩ := tok_block hb4
          obtain ⟨x0, x1, x2, x3, _, _, _, _⟩ := tok_block hb5
          have HC := Lib.hid (And.intro (And.intro c0 (And.intro c1 (And.intro c2 c3))) (And.intro x0 (And.intro x1 (And.intro x2 x3))))
          clear c0 c1 c2 c3 x0 x1 x2 x3
          refine wp_region_chain (fun W' => (W'.cell? ⟨w.heap.size, 0, none⟩ = some (.int .i64 K) ∧ W'.cell? ⟨w.heap.size, 1, none⟩ = some (.string S) ∧ W'.cell? ⟨w.heap.size, 2, none⟩ = some (.int .i64 N) ∧ W'.cell? ⟨w.heap.size, 3, none⟩ = some (.int .i64 At)) ∧
            (W'.cell? ⟨w2.heap.size, 0, none⟩ = some (.int .i64 a) ∧ W'.cell? ⟨w2.heap.size, 1, none⟩ = some (.string b) ∧ W'.cell? ⟨w2.heap.size, 2, none⟩ = some (.int .i64 n) ∧ W'.cell? ⟨w2.heap.size, 3, none⟩ = some (.int .i64 d))) [] [(0, 0), (1, 0), (2, 0), (3, 0), (4, 0), (5, 0), (6, 0), (7, 0), (8, 0), (9, 0), (10, 1), (11, 0), (12, 1), (13, 0), (14, 0), (15, 0), (16, 0), (17, 1), (18, 0), (19, 1), (20, 0), (21, 0), (22, 0), (23, 0), (24, 1), (25, 0), (26, 1), (27, 0), (28, 0), (29, 0), (30, 0)] (by kernel_rfl) (by kernel_rfl) (fun _ d _ _ _ h => by cases d <;> exact h) HC.out ?_
          repeat (first
            | (refine wpC_pure (v := ?_) rfl (by rfl) ?_ ?_
               rotate_left 1
               · (intro w; go_simp; try with_reducible rfl)
               try simp only [Act.put, List.setIfInBounds_toArray, List.set_cons_zero, List.set_cons_succ, List.getElem_toArray, List.getElem_cons_succ, List.getElem_cons_zero])
            | (refine wpC_held (v := ?_) rfl (by rfl) ?_ ?_
               rotate_left 1
               · (rintro w ⟨⟨c0, c1, c2, c3⟩, ⟨x0, x1, x2, x3⟩⟩; go_simp; try with_reducible rfl)
               try simp only [Act.put, List.setIfInBounds_toArray, List.set_cons_zero, List.set_cons_succ, List.getElem_toArray, List.getElem_cons_succ, List.getElem_cons_zero])
            | (refine wpC_pass rfl (by rfl) (by decide) ?_
               try simp only [Act.put, List.setIfInBounds_toArray, List.set_cons_zero, List.set_cons_succ, List.getElem_toArray, List.getElem_cons_succ, List.getElem_cons_zero]))
          refine wpC_nil ?_
          go_wp2_with fail
          go_returns
          exact ⟨.of_none HX.out HL.out rfl, hk3.drew⟩
        | some q =>
          obtain ⟨t, k⟩ := q
          have HX := Lib.hid hx
          have HL := Lib.hid hl
          have HOne := fun w => Lib.hid (refOne_any S 0 w hne (by omega))
          clear hx hl hne
          go_wp2_with (first
            | (go_at_call 78; refine (HOne _).out.mono ?_; rintro e w2 ⟨ho, hk2⟩; obtain rfl := ho.is_some (by simpa using HL.out); have hb2 := hk2.heap (heap_alloc_new w (.cells #[.int .i64 K, .string S, .int .i64 N, .int .i64 At] 91 (0, 0))) (by simp); have hlt2 := heap_lt hb2))
          have hkw := (hk0.alloc (.cells #[.int .i64 K, .string S, .int .i64 N, .int .i64 At] 91 (0, 0))).then hk2
          have hk3 := hkw.alloc (.cells #[.int .i64 t.kind, .string ⟨t.s.toArray⟩, .int .i64 t.n, .int .i64 0] 91 (0, 0))
          have hb4 := alloc_old hb2 (.cells #[.int .i64 t.kind, .string ⟨t.s.toArray⟩, .int .i64 t.n, .int .i64 0] 91 (0, 0))
          have hb5 := heap_alloc_new w2 (.cells #[.int .i64 t.kind, .string ⟨t.s.toArray⟩, .int .i64 t.n, .int .i64 0] 91 (0, 0))
          generalize (w2.alloc (.cells #[.int .i64 t.kind, .string ⟨t.s.toArray⟩, .int .i64 t.n, .int .i64 0] 91 (0, 0))) = w4 at *
          clear hb2
          obtain ⟨c0, c1, c2, c3, _, _, _, _⟩ := tok_block hb4
          obtain ⟨x0, x1, x2, x3, _, _, _, _⟩ := tok_block hb5
          have HC := Lib.hid (And.intro (And.intro c0 (And.intro c1 (And.intro c2 c3))) (And.intro x0 (And.intro x1 (And.intro x2 x3))))
          clear c0 c1 c2 c3 x0 x1 x2 x3
          cases hks : ((k : Int) == (S.size : Int)) with
          | false =>
            refine wp_region_chain (fun W' => (W'.cell? ⟨w.heap.size, 0, none⟩ = some (.int .i64 K) ∧ W'.cell? ⟨w.heap.size, 1, none⟩ = some (.string S) ∧ W'.cell? ⟨w.heap.size, 2, none⟩ = some (.int .i64 N) ∧ W'.cell? ⟨w.heap.size, 3, none⟩ = some (.int .i64 At)) ∧
              (W'.cell? ⟨w2.heap.size, 0, none⟩ = some (.int .i64 t.kind) ∧ W'.cell? ⟨w2.heap.size, 1, none⟩ = some (.string ⟨t.s.toArray⟩) ∧ W'.cell? ⟨w2.heap.size, 2, none⟩ = some (.int .i64 t.n) ∧ W'.cell? ⟨w2.heap.size, 3, none⟩ = some (.int .i64 0))) [] [(0, 0), (1, 0), (2, 0), (3, 0), (4, 0), (5, 0), (6, 0), (7, 0), (8, 0), (9, 0), (10, 1), (11, 0), (12, 1), (13, 0), (14, 0), (15, 0), (16, 0), (17, 1), (18, 0), (19, 1), (20, 0), (21, 0), (22, 0), (23, 0), (24, 1), (25, 0), (26, 1), (27, 0), (28, 0), (29, 0), (30, 0)] (by kernel_rfl) (by kernel_rfl) (fun _ d _ _ _ h => by cases d <;> exact h) HC.out ?_
            repeat (first
              | (refine wpC_pure (v := ?_) rfl (by rfl) ?_ ?_
                 rotate_left 1
                 · (intro w; go_simp; try with_reducible rfl)
                 try simp only [Act.put, List.setIfInBounds_toArray, List.set_cons_zero, List.set_cons_succ, List.getElem_toArray, List.getElem_cons_succ, List.getElem_cons_zero])
              | (refine wpC_held (v := ?_) rfl (by rfl) ?_ ?_
                 rotate_left 1
                 · (rintro w ⟨⟨c0, c1, c2, c3⟩, ⟨x0, x1, x2, x3⟩⟩; go_simp; try with_reducible rfl)
                 try simp only [Act.put, List.setIfInBounds_toArray, List.set_cons_zero, List.set_cons_succ, List.getElem_toArray, List.getElem_cons_succ, List.getElem_cons_zero])
              | (refine wpC_pass rfl (by rfl) (by decide) ?_
                 try simp only [Act.put, List.setIfInBounds_toArray, List.set_cons_zero, List.set_cons_succ, List.getElem_toArray, List.getElem_cons_succ, List.getElem_cons_zero]))
            refine wpC_nil ?_
            go_wp2_with fail
            go_returns
            refine ⟨.of_some (k := k) (t := t) HX.out HL.out ⟨fun h => (by cases h), ?_⟩ rfl, hk3.drew⟩
            rintro ⟨h1, h2, h3, h4⟩
            rw [beq_eq_false_iff_ne] at hks
            omega
          | true =>
            cases hkd : ((t.kind : Int) == K) with
            | false =>
              refine wp_region_chain (fun W' => (W'.cell? ⟨w.heap.size, 0, none⟩ = some (.int .i64 K) ∧ W'.cell? ⟨w.heap.size, 1, none⟩ = some (.string S) ∧ W'.cell? ⟨w.heap.size, 2, none⟩ = some (.int .i64 N) ∧ W'.cell? ⟨w.heap.size, 3, none⟩ = some (.int .i64 At)) ∧
                (W'.cell? ⟨w2.heap.size, 0, none⟩ = some (.int .i64 t.kind) ∧ W'.cell? ⟨w2.heap.size, 1, none⟩ = some (.string ⟨t.s.toArray⟩) ∧ W'.cell? ⟨w2.heap.size, 2, none⟩ = some (.int .i64 t.n) ∧ W'.cell? ⟨w2.heap.size, 3, none⟩ = some (.int .i64 0))) [] [(0, 0), (1, 0), (2, 0), (3, 0), (4, 0), (5, 0), (6, 0), (7, 0), (8, 0), (9, 0), (10, 1), (11, 0), (12, 1), (13, 0), (14, 0), (15, 0), (16, 0), (17, 1), (18, 0), (19, 1), (20, 0), (21, 0), (22, 0), (23, 0), (24, 1), (25, 0), (26, 1), (27, 0), (28, 0), (29, 0), (30, 0)] (by kernel_rfl) (by kernel_rfl) (fun _ d _ _ _ h => by cases d <;> exact h) HC.out ?_
              repeat (first
                | (refine wpC_pure (v := ?_) rfl (by rfl) ?_ ?_
                   rotate_left 1
                   · (intro w; go_simp; try with_reducible rfl)
                   try simp only [Act.put, List.setIfInBounds_toArray, List.set_cons_zero, List.set_cons_succ, List.getElem_toArray, List.getElem_cons_succ, List.getElem_cons_zero])
                | (refine wpC_held (v := ?_) rfl (by rfl) ?_ ?_
                   rotate_left 1
                   · (rintro w ⟨⟨c0, c1, c2, c3⟩, ⟨x0, x1, x2, x3⟩⟩; go_simp; try with_reducible rfl)
                   try simp only [Act.put, List.setIfInBounds_toArray, List.set_cons_zero, List.set_cons_succ, List.getElem_toArray, List.getElem_cons_succ, List.getElem_cons_zero])
                | (refine wpC_pass rfl (by rfl) (by decide) ?_
                   try simp only [Act.put, List.setIfInBounds_toArray, List.set_cons_zero, List.set_cons_succ, List.getElem_toArray, List.getElem_cons_succ, List.getElem_cons_zero]))
              refine wpC_nil ?_
              go_wp2_with fail
              go_returns
              refine ⟨.of_some (k := k) (t := t) HX.out HL.out ⟨fun h => (by cases h), ?_⟩ rfl, hk3.drew⟩
              rintro ⟨h1, h2, h3, h4⟩
              rw [beq_eq_false_iff_ne] at hkd
              exact absurd h2 hkd
            | true =>
              cases hst : (t.s == S.toList) with
              | false =>
                refine wp_region_chain (fun W' => (W'.cell? ⟨w.heap.size, 0, none⟩ = some (.int .i64 K) ∧ W'.cell? ⟨w.heap.size, 1, none⟩ = some (.string S) ∧ W'.cell? ⟨w.heap.size, 2, none⟩ = some (.int .i64 N) ∧ W'.cell? ⟨w.heap.size, 3, none⟩ = some (.int .i64 At)) ∧
                  (W'.cell? ⟨w2.heap.size, 0, none⟩ = some (.int .i64 t.kind) ∧ W'.cell? ⟨w2.heap.size, 1, none⟩ = some (.string ⟨t.s.toArray⟩) ∧ W'.cell? ⟨w2.heap.size, 2, none⟩ = some (.int .i64 t.n) ∧ W'.cell? ⟨w2.heap.size, 3, none⟩ = some (.int .i64 0))) [] [(0, 0), (1, 0), (2, 0), (3, 0), (4, 0), (5, 0), (6, 0), (7, 0), (8, 0), (9, 0), (10, 1), (11, 0), (12, 1), (13, 0), (14, 0), (15, 0), (16, 0), (17, 1), (18, 0), (19, 1), (20, 0), (21, 0), (22, 0), (23, 0), (24, 1), (25, 0), (26, 1), (27, 0), (28, 0), (29, 0), (30, 0)] (by kernel_rfl) (by kernel_rfl) (fun _ d _ _ _ h => by cases d <;> exact h) HC.out ?_
                repeat (first
                  | (refine wpC_pure (v := ?_) rfl (by rfl) ?_ ?_
                     rotate_left 1
                     · (intro w; go_simp; try with_reducible rfl)
                     try simp only [Act.put, List.setIfInBounds_toArray, List.set_cons_zero, List.set_cons_succ, List.getElem_toArray, List.getElem_cons_succ, List.getElem_cons_zero])
                  | (refine wpC_held (v := ?_) rfl (by rfl) ?_ ?_
                     rotate_left 1
                     · (rintro w ⟨⟨c0, c1, c2, c3⟩, ⟨x0, x1, x2, x3⟩⟩; go_simp; try with_reducible rfl)
                     try simp only [Act.put, List.setIfInBounds_toArray, List.set_cons_zero, List.set_cons_succ, List.getElem_toArray, List.getElem_cons_succ, List.getElem_cons_zero])
                  | (refine wpC_pass rfl (by rfl) (by decide) ?_
                     try simp only [Act.put, List.setIfInBounds_toArray, List.set_cons_zero, List.set_cons_succ, List.getElem_toArray, List.getElem_cons_succ, List.getElem_cons_zero]))
                refine wpC_nil ?_
                go_wp2_with fail
                go_returns
                refine ⟨.of_some (k := k) (t := t) HX.out HL.out ⟨fun h => (by cases h), ?_⟩ rfl, hk3.drew⟩
                rintro ⟨h1, h2, h3, h4⟩
                rw [beq_eq_false_iff_ne] at hst
                rw [← h3, ByteArray.toList_eq] at hst
                exact absurd rfl hst
              | true =>
                cases hnn : ((t.n : Int) == N) with
                | false =>
                  refine wp_region_chain (fun W' => (W'.cell? ⟨w.heap.size, 0, none⟩ = some (.int .i64 K) ∧ W'.cell? ⟨w.heap.size, 1, none⟩ = some (.string S) ∧ W'.cell? ⟨w.heap.size, 2, none⟩ = some (.int .i64 N) ∧ W'.cell? ⟨w.heap.size, 3, none⟩ = some (.int .i64 At)) ∧
                    (W'.cell? ⟨w2.heap.size, 0, none⟩ = some (.int .i64 t.kind) ∧ W'.cell? ⟨w2.heap.size, 1, none⟩ = some (.string ⟨t.s.toArray⟩) ∧ W'.cell? ⟨w2.heap.size, 2, none⟩ = some (.int .i64 t.n) ∧ W'.cell? ⟨w2.heap.size, 3, none⟩ = some (.int .i64 0))) [] [(0, 0), (1, 0), (2, 0), (3, 0), (4, 0), (5, 0), (6, 0), (7, 0), (8, 0), (9, 0), (10, 1), (11, 0), (12, 1), (13, 0), (14, 0), (15, 0), (16, 0), (17, 1), (18, 0), (19, 1), (20, 0), (21, 0), (22, 0), (23, 0), (24, 1), (25, 0), (26, 1), (27, 0), (28, 0), (29, 0), (30, 0)] (by kernel_rfl) (by kernel_rfl) (fun _ d _ _ _ h => by cases d <;> exact h) HC.out ?_
                  repeat (first
                    | (refine wpC_pure (v := ?_) rfl (by rfl) ?_ ?_
                       rotate_left 1
                       · (intro w; go_simp; try with_reducible rfl)
                       try simp only [Act.put, List.setIfInBounds_toArray, List.set_cons_zero, List.set_cons_succ, List.getElem_toArray, List.getElem_cons_succ, List.getElem_cons_zero])
                    | (refine wpC_held (v := ?_) rfl (by rfl) ?_ ?_
                       rotate_left 1
                       · (rintro w ⟨⟨c0, c1, c2, c3⟩, ⟨x0, x1, x2, x3⟩⟩; go_simp; try with_reducible rfl)
                       try simp only [Act.put, List.setIfInBounds_toArray, List.set_cons_zero, List.set_cons_succ, List.getElem_toArray, List.getElem_cons_succ, List.getElem_cons_zero])
                    | (refine wpC_pass rfl (by rfl) (by decide) ?_
                       try simp only [Act.put, List.setIfInBounds_toArray, List.set_cons_zero, List.set_cons_succ, List.getElem_toArray, List.getElem_cons_succ, List.getElem_cons_zero]))
                  refine wpC_nil ?_
                  go_wp2_with fail
                  go_returns
                  refine ⟨.of_some (k := k) (t := t) HX.out HL.out ⟨fun h => (by cases h), ?_⟩ rfl, hk3.drew⟩
                  rintro ⟨h1, h2, h3, h4⟩
                  rw [beq_eq_false_iff_ne] at hnn
                  exact absurd h4 hnn
                | true =>
                  refine wp_region_chain (fun W' => (W'.cell? ⟨w.heap.size, 0, none⟩ = some (.int .i64 K) ∧ W'.cell? ⟨w.heap.size, 1, none⟩ = some (.string S) ∧ W'.cell? ⟨w.heap.size, 2, none⟩ = some (.int .i64 N) ∧ W'.cell? ⟨w.heap.size, 3, none⟩ = some (.int .i64 At)) ∧
                    (W'.cell? ⟨w2.heap.size, 0, none⟩ = some (.int .i64 t.kind) ∧ W'.cell? ⟨w2.heap.size, 1, none⟩ = some (.string ⟨t.s.toArray⟩) ∧ W'.cell? ⟨w2.heap.size, 2, none⟩ = some (.int .i64 t.n) ∧ W'.cell? ⟨w2.heap.size, 3, none⟩ = some (.int .i64 0))) [] [(0, 0), (1, 0), (2, 0), (3, 0), (4, 0), (5, 0), (6, 0), (7, 0), (8, 0), (9, 0), (10, 1), (11, 0), (12, 1), (13, 0), (14, 0), (15, 0), (16, 0), (17, 1), (18, 0), (19, 1), (20, 0), (21, 0), (22, 0), (23, 0), (24, 1), (25, 0), (26, 1), (27, 0), (28, 0), (29, 0), (30, 0)] (by kernel_rfl) (by kernel_rfl) (fun _ d _ _ _ h => by cases d <;> exact h) HC.out ?_
                  repeat (first
                    | (refine wpC_pure (v := ?_) rfl (by rfl) ?_ ?_
                       rotate_left 1
                       · (intro w; go_simp; try with_reducible rfl)
                       try simp only [Act.put, List.setIfInBounds_toArray, List.set_cons_zero, List.set_cons_succ, List.getElem_toArray, List.getElem_cons_succ, List.getElem_cons_zero])
                    | (refine wpC_held (v := ?_) rfl (by rfl) ?_ ?_
                       rotate_left 1
                       · (rintro w ⟨⟨c0, c1, c2, c3⟩, ⟨x0, x1, x2, x3⟩⟩; go_simp; try with_reducible rfl)
                       try simp only [Act.put, List.setIfInBounds_toArray, List.set_cons_zero, List.set_cons_succ, List.getElem_toArray, List.getElem_cons_succ, List.getElem_cons_zero])
                    | (refine wpC_pass rfl (by rfl) (by decide) ?_
                       try simp only [Act.put, List.setIfInBounds_toArray, List.set_cons_zero, List.set_cons_succ, List.getElem_toArray, List.getElem_cons_succ, List.getElem_cons_zero]))
                  refine wpC_nil ?_
                  go_wp2_with fail
                  go_returns
                  refine ⟨.of_some (k := k) (t := t) HX.out HL.out ⟨fun _ => ⟨by have := eq_of_beq hks; omega, eq_of_beq hkd, ?_, eq_of_beq hnn⟩, fun _ => rfl⟩ rfl, hk3.drew⟩
                  have h3 := eq_of_beq hst
                  rw [h3, ByteArray.toList_eq]

set_option maxHeartbeats 16000000 in
set_option maxRecDepth 100000 in
theorem refWritten_text (N At : Int) (S : ByteArray) (w : World) (_hN : -9223372036854775808 ≤ N ∧ N ≤ 9223372036854775807) (hS : S.size ≤ 140737488351232) :
    Calls Tryz.prog 49 #[.agg #[.int .i64 3, .string S, .int .i64 N, .int .i64 At]] w fun e w' => WrittenOut 3 S N e ∧ Keeps [] w w' := by
  have hk0 := Keeps.refl [] w
  go_enter Tryz.func49, Tryz.ntmps49
  have hx : cand 3 S.data.toList N = ((⟨#[39]⟩ : ByteArray) ++ S ++ (⟨#[39]⟩ : ByteArray)).data.toList := by unfold cand; rw [if_neg (by decide), if_pos rfl]; simp [ByteArray.data_append]
  have hsz3 : ((⟨#[39]⟩ : ByteArray) ++ S ++ (⟨#[39]⟩ : ByteArray)).size = S.size + 2 := by rw [ByteArray.size_append, ByteArray.size_append]; show 1 + S.size + 1 = S.size + 2; omega
  have hl0 : (cand 3 S.data.toList N).length = S.size + 2 := by rw [hx, ← hsz3]; rfl
  have hne : 0 < ((⟨#[39]⟩ : ByteArray) ++ S ++ (⟨#[39]⟩ : ByteArray)).size := by omega
  have hemp := not_empty hne
  by_cases hlong : 258 < S.size + 2
  · have HNo := Lib.hid (no_long (by rw [hl0]; exact hlong))
    have d1 : decide ((258 : Int) < (S.size : Int) + 2) = true := by simp; omega
    clear hx hl0
    go_wp2_with fail
    go_returns
    exact ⟨.of_no HNo.out rfl, hk0.alloc _⟩
  · have d1 : decide ((258 : Int) < (S.size : Int) + 2) = false := by simp; omega
    cases hn0 : (N != 0) with
    | true =>
      have HNo := Lib.hid (no_num (K := 3) (s := S.data.toList) (by decide) (bne_iff_ne.1 hn0))
      clear hx hl0
      go_wp2_with fail
      go_returns
      exact ⟨.of_no HNo.out rfl, hk0.alloc _⟩
    | false =>
      clear hl0
      cases hl : lexOne ((⟨#[39]⟩ : ByteArray) ++ S ++ (⟨#[39]⟩ : ByteArray)).data.toList with
      | none =>
        have HX := Lib.hid hx
        have HL := Lib.hid hl
        have HOne := fun w => Lib.hid (refOne_any ((⟨#[39]⟩ : ByteArray) ++ S ++ (⟨#[39]⟩ : ByteArray)) 0 w hne (by omega))
        clear hx hl hne
        go_wp2_with (first
          | (go_at_call 78; refine (HOne _).out.mono ?_; rintro e w2 ⟨ho, hk2⟩; obtain ⟨a, b, n, d, E, rfl⟩ := ho.is_none (by simpa using HL.out); have hb2 := hk2.heap (heap_alloc_new w (.cells #[.int .i64 3, .string S, .int .i64 N, .int .i64 At] 91 (0, 0))) (by simp); have hlt2 := heap_lt hb2))
        clear hsz3
        generalize ((⟨#[39]⟩ : ByteArray) ++ S ++ (⟨#[39]⟩ : ByteArray)) = X at *
        have hkw := (hk0.alloc (.cells #[.int .i64 3, .string S, .int .i64 N, .int .i64 At] 91 (0, 0))).then hk2
        have hk3 := hkw.alloc (.cells #[.int .i64 a, .string b, .int .i64 n, .int .i64 d] 91 (0, 0))
        have hb4 := alloc_old hb2 (.cells #[.int .i64 a, .string b, .int .i64 n, .int .i64 d] 91 (0, 0))
        have hb5 := heap_alloc_new w2 (.cells #[.int .i64 a, .string b, .int .i64 n, .int .i64 d] 91 (0, 0))
        generalize (w2.alloc (.cells #[.int .i64 a, .string b, .int .i64 n, .int .i64 d] 91 (0, 0))) = w4 at *
        clear hb2
        obtain ⟨c0, c1, c2, c3, _, _, _, _⟩ := tok_block hb4
        obtain ⟨x0, x1, x2, x3, _, _, _, _⟩ := tok_block hb5
        have HC := Lib.hid (And.intro (And.intro c0 (And.intro c1 (And.intro c2 c3))) (And.intro x0 (And.intro x1 (And.intro x2 x3))))
        clear c0 c1 c2 c3 x0 x1 x2 x3
        refine wp_region_chain (fun W' => (W'.cell? ⟨w.heap.size, 0, none⟩ = some (.int .i64 3) ∧ W'.cell? ⟨w.heap.size, 1, none⟩ = some (.string S) ∧ W'.cell? ⟨w.heap.size, 2, none⟩ = some (.int .i64 N) ∧ W'.cell? ⟨w.heap.size, 3, none⟩ = some (.int .i64 At)) ∧
          (W'.cell? ⟨w2.heap.size, 0, none⟩ = some (.int .i64 a) ∧ W'.cell? ⟨w2.heap.size, 1, none⟩ = some (.string b) ∧ W'.cell? ⟨w2.heap.size, 2, none⟩ = some (.int .i64 n) ∧ W'.cell? ⟨w2.heap.size, 3, none⟩ = some (.int .i64 d))) [] [(0, 0), (1, 0), (2, 0), (3, 0), (4, 0), (5, 0), (6, 0), (7, 0), (8, 0), (9, 0), (10, 1), (11, 0), (12, 1), (13, 0), (14, 0), (15, 0), (16, 0), (17, 1), (18, 0), (19, 1), (20, 0), (21, 0), (22, 0), (23, 0), (24, 1), (25, 0), (26, 1), (27, 0), (28, 0), (29, 0), (30, 0)] (by kernel_rfl) (by kernel_rfl) (fun _ d _ _ _ h => by cases d <;> exact h) HC.out ?_
        repeat (first
          | (refine wpC_pure (v := ?_) rfl (by rfl) ?_ ?_
             rotate_left 1
             · (intro w; go_simp; try with_reducible rfl)
             try simp only [Act.put, List.setIfInBounds_toArray, List.set_cons_zero, List.set_cons_succ, List.getElem_toArray, List.getElem_cons_succ, List.getElem_cons_zero])
          | (refine wpC_held (v := ?_) rfl (by rfl) ?_ ?_
             rotate_left 1
             · (rintro w ⟨⟨c0, c1, c2, c3⟩, ⟨x0, x1, x2, x3⟩⟩; go_simp; try with_reducible rfl)
             try simp only [Act.put, List.setIfInBounds_toArray, List.set_cons_zero, List.set_cons_succ, List.getElem_toArray, List.getElem_cons_succ, List.getElem_cons_zero])
          | (refine wpC_pass rfl (by rfl) (by decide) ?_
             try simp only [Act.put, List.setIfInBounds_toArray, List.set_cons_zero, List.set_cons_succ, List.getElem_toArray, List.getElem_cons_succ, List.getElem_cons_zero]))
        refine wpC_nil ?_
        go_wp2_with fail
        go_returns
        exact ⟨.of_none HX.out HL.out rfl, hk3.drew⟩
      | some q =>
        obtain ⟨t, k⟩ := q
        have HX := Lib.hid hx
        have HL := Lib.hid hl
        have HOne := fun w => Lib.hid (refOne_any ((⟨#[39]⟩ : ByteArray) ++ S ++ (⟨#[39]⟩ : ByteArray)) 0 w hne (by omega))
        clear hx hl hne
        go_wp2_with (first
          | (go_at_call 78; refine (HOne _).out.mono ?_; rintro e w2 ⟨ho, hk2⟩; obtain rfl := ho.is_some (by simpa using HL.out); have hb2 := hk2.heap (heap_alloc_new w (.cells #[.int .i64 3, .string S, .int .i64 N, .int .i64 At] 91 (0, 0))) (by simp); have hlt2 := heap_lt hb2))
        clear hsz3
        generalize ((⟨#[39]⟩ : ByteArray) ++ S ++ (⟨#[39]⟩ : ByteArray)) = X at *
        have hkw := (hk0.alloc (.cells #[.int .i64 3, .string S, .int .i64 N, .int .i64 At] 91 (0, 0))).then hk2
        have hk3 := hkw.alloc (.cells #[.int .i64 t.kind, .string ⟨t.s.toArray⟩, .int .i64 t.n, .int .i64 0] 91 (0, 0))
        have hb4 := alloc_old hb2 (.cells #[.int .i64 t.kind, .string ⟨t.s.toArray⟩, .int .i64 t.n, .int .i64 0] 91 (0, 0))
        have hb5 := heap_alloc_new w2 (.cells #[.int .i64 t.kind, .string ⟨t.s.toArray⟩, .int .i64 t.n, .int .i64 0] 91 (0, 0))
        generalize (w2.alloc (.cells #[.int .i64 t.kind, .string ⟨t.s.toArray⟩, .int .i64 t.n, .int .i64 0] 91 (0, 0))) = w4 at *
        clear hb2
        obtain ⟨c0, c1, c2, c3, _, _, _, _⟩ := tok_block hb4
        obtain ⟨x0, x1, x2, x3, _, _, _, _⟩ := tok_block hb5
        have HC := Lib.hid (And.intro (And.intro c0 (And.intro c1 (And.intro c2 c3))) (And.intro x0 (And.intro x1 (And.intro x2 x3))))
        clear c0 c1 c2 c3 x0 x1 x2 x3
        cases hks : ((k : Int) == (X.size : Int)) with
        | false =>
          refine wp_region_chain (fun W' => (W'.cell? ⟨w.heap.size, 0, none⟩ = some (.int .i64 3) ∧ W'.cell? ⟨w.heap.size, 1, none⟩ = some (.string S) ∧ W'.cell? ⟨w.heap.size, 2, none⟩ = some (.int .i64 N) ∧ W'.cell? ⟨w.heap.size, 3, none⟩ = some (.int .i64 At)) ∧
            (W'.cell? ⟨w2.heap.size, 0, none⟩ = some (.int .i64 t.kind) ∧ W'.cell? ⟨w2.heap.size, 1, none⟩ = some (.string ⟨t.s.toArray⟩) ∧ W'.cell? ⟨w2.heap.size, 2, none⟩ = some (.int .i64 t.n) ∧ W'.cell? ⟨w2.heap.size, 3, none⟩ = some (.int .i64 0))) [] [(0, 0), (1, 0), (2, 0), (3, 0), (4, 0), (5, 0), (6, 0), (7, 0), (8, 0), (9, 0), (10, 1), (11, 0), (12, 1), (13, 0), (14, 0), (15, 0), (16, 0), (17, 1), (18, 0), (19, 1), (20, 0), (21, 0), (22, 0), (23, 0), (24, 1), (25, 0), (26, 1), (27, 0), (28, 0), (29, 0), (30, 0)] (by kernel_rfl) (by kernel_rfl) (fun _ d _ _ _ h => by cases d <;> exact h) HC.out ?_
          repeat (first
            | (refine wpC_pure (v := ?_) rfl (by rfl) ?_ ?_
               rotate_left 1
               · (intro w; go_simp; try with_reducible rfl)
               try simp only [Act.put, List.setIfInBounds_toArray, List.set_cons_zero, List.set_cons_succ, List.getElem_toArray, List.getElem_cons_succ, List.getElem_cons_zero])
            | (refine wpC_held (v := ?_) rfl (by rfl) ?_ ?_
               rotate_left 1
               · (rintro w ⟨⟨c0, c1, c2, c3⟩, ⟨x0, x1, x2, x3⟩⟩; go_simp; try with_reducible rfl)
               try simp only [Act.put, List.setIfInBounds_toArray, List.set_cons_zero, List.set_cons_succ, List.getElem_toArray, List.getElem_cons_succ, List.getElem_cons_zero])
            | (refine wpC_pass rfl (by rfl) (by decide) ?_
               try simp only [Act.put, List.setIfInBounds_toArray, List.set_cons_zero, List.set_cons_succ, List.getElem_toArray, List.getElem_cons_succ, List.getElem_cons_zero]))
          refine wpC_nil ?_
          go_wp2_with fail
          go_returns
          refine ⟨.of_some (k := k) (t := t) HX.out HL.out ⟨fun h => (by cases h), ?_⟩ rfl, hk3.drew⟩
          rintro ⟨h1, h2, h3, h4⟩
          rw [beq_eq_false_iff_ne] at hks
          omega
        | true =>
          cases hkd : ((t.kind : Int) == 3) with
          | false =>
            refine wp_region_chain (fun W' => (W'.cell? ⟨w.heap.size, 0, none⟩ = some (.int .i64 3) ∧ W'.cell? ⟨w.heap.size, 1, none⟩ = some (.string S) ∧ W'.cell? ⟨w.heap.size, 2, none⟩ = some (.int .i64 N) ∧ W'.cell? ⟨w.heap.size, 3, none⟩ = some (.int .i64 At)) ∧
              (W'.cell? ⟨w2.heap.size, 0, none⟩ = some (.int .i64 t.kind) ∧ W'.cell? ⟨w2.heap.size, 1, none⟩ = some (.string ⟨t.s.toArray⟩) ∧ W'.cell? ⟨w2.heap.size, 2, none⟩ = some (.int .i64 t.n) ∧ W'.cell? ⟨w2.heap.size, 3, none⟩ = some (.int .i64 0))) [] [(0, 0), (1, 0), (2, 0), (3, 0), (4, 0), (5, 0), (6, 0), (7, 0), (8, 0), (9, 0), (10, 1), (11, 0), (12, 1), (13, 0), (14, 0), (15, 0), (16, 0), (17, 1), (18, 0), (19, 1), (20, 0), (21, 0), (22, 0), (23, 0), (24, 1), (25, 0), (26, 1), (27, 0), (28, 0), (29, 0), (30, 0)] (by kernel_rfl) (by kernel_rfl) (fun _ d _ _ _ h => by cases d <;> exact h) HC.out ?_
            repeat (first
              | (refine wpC_pure (v := ?_) rfl (by rfl) ?_ ?_
                 rotate_left 1
                 · (intro w; go_simp; try with_reducible rfl)
                 try simp only [Act.put, List.setIfInBounds_toArray, List.set_cons_zero, List.set_cons_succ, List.getElem_toArray, List.getElem_cons_succ, List.getElem_cons_zero])
              | (refine wpC_held (v := ?_) rfl (by rfl) ?_ ?_
                 rotate_left 1
                 · (rintro w ⟨⟨c0, c1, c2, c3⟩, ⟨x0, x1, x2, x3⟩⟩; go_simp; try with_reducible rfl)
                 try simp only [Act.put, List.setIfInBounds_toArray, List.set_cons_zero, List.set_cons_succ, List.getElem_toArray, List.getElem_cons_succ, List.getElem_cons_zero])
              | (refine wpC_pass rfl (by rfl) (by decide) ?_
                 try simp only [Act.put, List.setIfInBounds_toArray, List.set_cons_zero, List.set_cons_succ, List.getElem_toArray, List.getElem_cons_succ, List.getElem_cons_zero]))
            refine wpC_nil ?_
            go_wp2_with fail
            go_returns
            refine ⟨.of_some (k := k) (t := t) HX.out HL.out ⟨fun h => (by cases h), ?_⟩ rfl, hk3.drew⟩
            rintro ⟨h1, h2, h3, h4⟩
            rw [beq_eq_false_iff_ne] at hkd
            exact absurd h2 hkd
          | true =>
            cases hst : (t.s == S.toList) with
            | false =>
              refine wp_region_chain (fun W' => (W'.cell? ⟨w.heap.size, 0, none⟩ = some (.int .i64 3) ∧ W'.cell? ⟨w.heap.size, 1, none⟩ = some (.string S) ∧ W'.cell? ⟨w.heap.size, 2, none⟩ = some (.int .i64 N) ∧ W'.cell? ⟨w.heap.size, 3, none⟩ = some (.int .i64 At)) ∧
                (W'.cell? ⟨w2.heap.size, 0, none⟩ = some (.int .i64 t.kind) ∧ W'.cell? ⟨w2.heap.size, 1, none⟩ = some (.string ⟨t.s.toArray⟩) ∧ W'.cell? ⟨w2.heap.size, 2, none⟩ = some (.int .i64 t.n) ∧ W'.cell? ⟨w2.heap.size, 3, none⟩ = some (.int .i64 0))) [] [(0, 0), (1, 0), (2, 0), (3, 0), (4, 0), (5, 0), (6, 0), (7, 0), (8, 0), (9, 0), (10, 1), (11, 0), (12, 1), (13, 0), (14, 0), (15, 0), (16, 0), (17, 1), (18, 0), (19, 1), (20, 0), (21, 0), (22, 0), (23, 0), (24, 1), (25, 0), (26, 1), (27, 0), (28, 0), (29, 0), (30, 0)] (by kernel_rfl) (by kernel_rfl) (fun _ d _ _ _ h => by cases d <;> exact h) HC.out ?_
              repeat (first
                | (refine wpC_pure (v := ?_) rfl (by rfl) ?_ ?_
                   rotate_left 1
                   · (intro w; go_simp; try with_reducible rfl)
                   try simp only [Act.put, List.setIfInBounds_toArray, List.set_cons_zero, List.set_cons_succ, List.getElem_toArray, List.getElem_cons_succ, List.getElem_cons_zero])
                | (refine wpC_held (v := ?_) rfl (by rfl) ?_ ?_
                   rotate_left 1
                   · (rintro w ⟨⟨c0, c1, c2, c3⟩, ⟨x0, x1, x2, x3⟩⟩; go_simp; try with_reducible rfl)
                   try simp only [Act.put, List.setIfInBounds_toArray, List.set_cons_zero, List.set_cons_succ, List.getElem_toArray, List.getElem_cons_succ, List.getElem_cons_zero])
                | (refine wpC_pass rfl (by rfl) (by decide) ?_
                   try simp only [Act.put, List.setIfInBounds_toArray, List.set_cons_zero, List.set_cons_succ, List.getElem_toArray, List.getElem_cons_succ, List.getElem_cons_zero]))
              refine wpC_nil ?_
              go_wp2_with fail
              go_returns
              refine ⟨.of_some (k := k) (t := t) HX.out HL.out ⟨fun h => (by cases h), ?_⟩ rfl, hk3.drew⟩
              rintro ⟨h1, h2, h3, h4⟩
              rw [beq_eq_false_iff_ne] at hst
              rw [← h3, ByteArray.toList_eq] at hst
              exact absurd rfl hst
            | true =>
              cases hnn : ((t.n : Int) == N) with
              | false =>
                refine wp_region_chain (fun W' => (W'.cell? ⟨w.heap.size, 0, none⟩ = some (.int .i64 3) ∧ W'.cell? ⟨w.heap.size, 1, none⟩ = some (.string S) ∧ W'.cell? ⟨w.heap.size, 2, none⟩ = some (.int .i64 N) ∧ W'.cell? ⟨w.heap.size, 3, none⟩ = some (.int .i64 At)) ∧
                  (W'.cell? ⟨w2.heap.size, 0, none⟩ = some (.int .i64 t.kind) ∧ W'.cell? ⟨w2.heap.size, 1, none⟩ = some (.string ⟨t.s.toArray⟩) ∧ W'.cell? ⟨w2.heap.size, 2, none⟩ = some (.int .i64 t.n) ∧ W'.cell? ⟨w2.heap.size, 3, none⟩ = some (.int .i64 0))) [] [(0, 0), (1, 0), (2, 0), (3, 0), (4, 0), (5, 0), (6, 0), (7, 0), (8, 0), (9, 0), (10, 1), (11, 0), (12, 1), (13, 0), (14, 0), (15, 0), (16, 0), (17, 1), (18, 0), (19, 1), (20, 0), (21, 0), (22, 0), (23, 0), (24, 1), (25, 0), (26, 1), (27, 0), (28, 0), (29, 0), (30, 0)] (by kernel_rfl) (by kernel_rfl) (fun _ d _ _ _ h => by cases d <;> exact h) HC.out ?_
                repeat (first
                  | (refine wpC_pure (v := ?_) rfl (by rfl) ?_ ?_
                     rotate_left 1
                     · (intro w; go_simp; try with_reducible rfl)
                     try simp only [Act.put, List.setIfInBounds_toArray, List.set_cons_zero, List.set_cons_succ, List.getElem_toArray, List.getElem_cons_succ, List.getElem_cons_zero])
                  | (refine wpC_held (v := ?_) rfl (by rfl) ?_ ?_
                     rotate_left 1
                     · (rintro w ⟨⟨c0, c1, c2, c3⟩, ⟨x0, x1, x2, x3⟩⟩; go_simp; try with_reducible rfl)
                     try simp only [Act.put, List.setIfInBounds_toArray, List.set_cons_zero, List.set_cons_succ, List.getElem_toArray, List.getElem_cons_succ, List.getElem_cons_zero])
                  | (refine wpC_pass rfl (by rfl) (by decide) ?_
                     try simp only [Act.put, List.setIfInBounds_toArray, List.set_cons_zero, List.set_cons_succ, List.getElem_toArray, List.getElem_cons_succ, List.getElem_cons_zero]))
                refine wpC_nil ?_
                go_wp2_with fail
                go_returns
                refine ⟨.of_some (k := k) (t := t) HX.out HL.out ⟨fun h => (by cases h), ?_⟩ rfl, hk3.drew⟩
                rintro ⟨h1, h2, h3, h4⟩
                rw [beq_eq_false_iff_ne] at hnn
                exact absurd h4 hnn
              | true =>
                refine wp_region_chain (fun W' => (W'.cell? ⟨w.heap.size, 0, none⟩ = some (.int .i64 3) ∧ W'.cell? ⟨w.heap.size, 1, none⟩ = some (.string S) ∧ W'.cell? ⟨w.heap.size, 2, none⟩ = some (.int .i64 N) ∧ W'.cell? ⟨w.heap.size, 3, none⟩ = some (.int .i64 At)) ∧
                  (W'.cell? ⟨w2.heap.size, 0, none⟩ = some (.int .i64 t.kind) ∧ W'.cell? ⟨w2.heap.size, 1, none⟩ = some (.string ⟨t.s.toArray⟩) ∧ W'.cell? ⟨w2.heap.size, 2, none⟩ = some (.int .i64 t.n) ∧ W'.cell? ⟨w2.heap.size, 3, none⟩ = some (.int .i64 0))) [] [(0, 0), (1, 0), (2, 0), (3, 0), (4, 0), (5, 0), (6, 0), (7, 0), (8, 0), (9, 0), (10, 1), (11, 0), (12, 1), (13, 0), (14, 0), (15, 0), (16, 0), (17, 1), (18, 0), (19, 1), (20, 0), (21, 0), (22, 0), (23, 0), (24, 1), (25, 0), (26, 1), (27, 0), (28, 0), (29, 0), (30, 0)] (by kernel_rfl) (by kernel_rfl) (fun _ d _ _ _ h => by cases d <;> exact h) HC.out ?_
                repeat (first
                  | (refine wpC_pure (v := ?_) rfl (by rfl) ?_ ?_
                     rotate_left 1
                     · (intro w; go_simp; try with_reducible rfl)
                     try simp only [Act.put, List.setIfInBounds_toArray, List.set_cons_zero, List.set_cons_succ, List.getElem_toArray, List.getElem_cons_succ, List.getElem_cons_zero])
                  | (refine wpC_held (v := ?_) rfl (by rfl) ?_ ?_
                     rotate_left 1
                     · (rintro w ⟨⟨c0, c1, c2, c3⟩, ⟨x0, x1, x2, x3⟩⟩; go_simp; try with_reducible rfl)
                     try simp only [Act.put, List.setIfInBounds_toArray, List.set_cons_zero, List.set_cons_succ, List.getElem_toArray, List.getElem_cons_succ, List.getElem_cons_zero])
                  | (refine wpC_pass rfl (by rfl) (by decide) ?_
                     try simp only [Act.put, List.setIfInBounds_toArray, List.set_cons_zero, List.set_cons_succ, List.getElem_toArray, List.getElem_cons_succ, List.getElem_cons_zero]))
                refine wpC_nil ?_
                go_wp2_with fail
                go_returns
                refine ⟨.of_some (k := k) (t := t) HX.out HL.out ⟨fun _ => ⟨by have := eq_of_beq hks; omega, eq_of_beq hkd, ?_, eq_of_beq hnn⟩, fun _ => rfl⟩ rfl, hk3.drew⟩
                have h3 := eq_of_beq hst
                rw [h3, ByteArray.toList_eq]

set_option maxHeartbeats 16000000 in
set_option maxRecDepth 100000 in
theorem refWritten_num (N At : Int) (S : ByteArray) (w : World) (hN : -9223372036854775808 ≤ N ∧ N ≤ 9223372036854775807) (hS : S.size ≤ 140737488351232) :
    Calls Tryz.prog 49 #[.agg #[.int .i64 2, .string S, .int .i64 N, .int .i64 At]] w fun e w' => WrittenOut 2 S N e ∧ Keeps [] w w' := by
  have hk0 := Keeps.refl [] w
  go_enter Tryz.func49, Tryz.ntmps49
  by_cases hneg : N < 0
  · have HNo := Lib.hid (no_neg (s := S.data.toList) hneg)
    go_wp2_with fail
    go_returns
    exact ⟨.of_no HNo.out rfl, hk0.alloc _⟩
  · have hnn0 : 0 ≤ N := by omega
    by_cases he : S.size = 0
    · have hnil : S = ⟨#[]⟩ := by
        apply ByteArray.ext
        exact Array.eq_empty_of_size_eq_zero he
      have hemp0 : S.toList = [] := by rw [hnil, ByteArray.toList_eq]
      obtain ⟨m, rfl⟩ : ∃ m : Nat, N = m := ⟨N.toNat, by omega⟩
      have HF0 := fun w => digits_any m w (by omega)
      obtain ⟨X, hX⟩ : ∃ X : ByteArray, X = ⟨(Lib.decDigits m).toArray⟩ := ⟨_, rfl⟩
      have hsz3 : X.size = (Lib.decDigits m).length := by rw [hX]; simp [ByteArray.size]
      have hne : 0 < X.size := by rw [hsz3]; exact decDigits_pos m
      have hs3 : X.size ≤ 21 := by rw [hsz3]; exact dec_len m (by omega)
      have d1 : decide ((258 : Int) < (X.size : Int)) = false := by simp; omega
      have hx : cand 2 S.data.toList m = X.data.toList := by
        unfold cand Lib.itoa
        rw [if_pos rfl, if_neg (by omega), Int.toNat_natCast, hX]
      have hemp := not_empty hne
      rw [← hX] at HF0
      have HF := fun w => Lib.hid (HF0 w)
      clear HF0 hsz3 hX hnil
      generalize hNm : (m : Int) = N at *
      clear hNm
      cases hl : lexOne X.data.toList with
      | none =>
        have HX := Lib.hid hx
        have HL := Lib.hid hl
        have HOne := fun w => Lib.hid (refOne_any X 0 w hne (by omega))
        clear hx hl hne
        go_wp2_with (first
          | (go_at_call 78; refine (HOne _).out.mono ?_; rintro e w2 ⟨ho, hk2⟩; obtain ⟨a, b, n, d, E, rfl⟩ := ho.is_none (by simpa using HL.out); have hb2 := hk2.heap (hk1.heap (heap_alloc_new w (.cells #[.int .i64 2, .string S, .int .i64 N, .int .i64 At] 91 (0, 0))) (by simp)) (by simp); have hlt2 := heap_lt hb2)
          | (go_at_call 77; refine (HF _).out.mono ?_; rintro e w1 ⟨rfl, hk1⟩; obtain ⟨p0, p1, p2, p3, _, _, _, _⟩ := tok_block (hk1.heap (heap_alloc_new w (.cells #[.int .i64 2, .string S, .int .i64 N, .int .i64 At] 91 (0, 0))) (by simp))))
        clear hemp0 he
        have hkw := ((hk0.alloc (.cells #[.int .i64 2, .string S, .int .i64 N, .int .i64 At] 91 (0, 0))).then hk1).then hk2
        have hk3 := hkw.alloc (.cells #[.int .i64 a, .string b, .int .i64 n, .int .i64 d] 91 (0, 0))
        have hb4 := alloc_old hb2 (.cells #[.int .i64 a, .string b, .int .i64 n, .int .i64 d] 91 (0, 0))
        have hb5 := heap_alloc_new w2 (.cells #[.int .i64 a, .string b, .int .i64 n, .int .i64 d] 91 (0, 0))
        generalize (w2.alloc (.cells #[.int .i64 a, .string b, .int .i64 n, .int .i64 d] 91 (0, 0))) = w4 at *
        clear hb2
        obtain ⟨c0, c1, c2, c3, _, _, _, _⟩ := tok_block hb4
        obtain ⟨x0, x1, x2, x3, _, _, _, _⟩ := tok_block hb5
        have HC := Lib.hid (And.intro (And.intro c0 (And.intro c1 (And.intro c2 c3))) (And.intro x0 (And.intro x1 (And.intro x2 x3))))
        clear c0 c1 c2 c3 x0 x1 x2 x3
        refine wp_region_chain (fun W' => (W'.cell? ⟨w.heap.size, 0, none⟩ = some (.int .i64 2) ∧ W'.cell? ⟨w.heap.size, 1, none⟩ = some (.string S) ∧ W'.cell? ⟨w.heap.size, 2, none⟩ = some (.int .i64 N) ∧ W'.cell? ⟨w.heap.size, 3, none⟩ = some (.int .i64 At)) ∧
          (W'.cell? ⟨w2.heap.size, 0, none⟩ = some (.int .i64 a) ∧ W'.cell? ⟨w2.heap.size, 1, none⟩ = some (.string b) ∧ W'.cell? ⟨w2.heap.size, 2, none⟩ = some (.int .i64 n) ∧ W'.cell? ⟨w2.heap.size, 3, none⟩ = some (.int .i64 d))) [] [(0, 0), (1, 0), (2, 0), (3, 0), (4, 0), (5, 0), (6, 0), (7, 0), (8, 0), (9, 0), (10, 1), (11, 0), (12, 1), (13, 0), (14, 0), (15, 0), (16, 0), (17, 1), (18, 0), (19, 1), (20, 0), (21, 0), (22, 0), (23, 0), (24, 1), (25, 0), (26, 1), (27, 0), (28, 0), (29, 0), (30, 0)] (by kernel_rfl) (by kernel_rfl) (fun _ d _ _ _ h => by cases d <;> exact h) HC.out ?_
        repeat (first
          | (refine wpC_pure (v := ?_) rfl (by rfl) ?_ ?_
             rotate_left 1
             · (intro w; go_simp; try with_reducible rfl)
             try simp only [Act.put, List.setIfInBounds_toArray, List.set_cons_zero, List.set_cons_succ, List.getElem_toArray, List.getElem_cons_succ, List.getElem_cons_zero])
          | (refine wpC_held (v := ?_) rfl (by rfl) ?_ ?_
             rotate_left 1
             · (rintro w ⟨⟨c0, c1, c2, c3⟩, ⟨x0, x1, x2, x3⟩⟩; go_simp; try with_reducible rfl)
             try simp only [Act.put, List.setIfInBounds_toArray, List.set_cons_zero, List.set_cons_succ, List.getElem_toArray, List.getElem_cons_succ, List.getElem_cons_zero])
          | (refine wpC_pass rfl (by rfl) (by decide) ?_
             try simp only [Act.put, List.setIfInBounds_toArray, List.set_cons_zero, List.set_cons_succ, List.getElem_toArray, List.getElem_cons_succ, List.getElem_cons_zero]))
        refine wpC_nil ?_
        go_wp2_with fail
        go_returns
        exact ⟨.of_none HX.out HL.out rfl, hk3.drew⟩
      | some q =>
        obtain ⟨t, k⟩ := q
        have HX := Lib.hid hx
        have HL := Lib.hid hl
        have HOne := fun w => Lib.hid (refOne_any X 0 w hne (by omega))
        clear hx hl hne
        go_wp2_with (first
          | (go_at_call 78; refine (HOne _).out.mono ?_; rintro e w2 ⟨ho, hk2⟩; obtain rfl := ho.is_some (by simpa using HL.out); have hb2 := hk2.heap (hk1.heap (heap_alloc_new w (.cells #[.int .i64 2, .string S, .int .i64 N, .int .i64 At] 91 (0, 0))) (by simp)) (by simp); have hlt2 := heap_lt hb2)
          | (go_at_call 77; refine (HF _).out.mono ?_; rintro e w1 ⟨rfl, hk1⟩; obtain ⟨p0, p1, p2, p3, _, _, _, _⟩ := tok_block (hk1.heap (heap_alloc_new w (.cells #[.int .i64 2, .string S, .int .i64 N, .int .i64 At] 91 (0, 0))) (by simp))))
        clear hemp0 he
        have hkw := ((hk0.alloc (.cells #[.int .i64 2, .string S, .int .i64 N, .int .i64 At] 91 (0, 0))).then hk1).then hk2
        have hk3 := hkw.alloc (.cells #[.int .i64 t.kind, .string ⟨t.s.toArray⟩, .int .i64 t.n, .int .i64 0] 91 (0, 0))
        have hb4 := alloc_old hb2 (.cells #[.int .i64 t.kind, .string ⟨t.s.toArray⟩, .int .i64 t.n, .int .i64 0] 91 (0, 0))
        have hb5 := heap_alloc_new w2 (.cells #[.int .i64 t.kind, .string ⟨t.s.toArray⟩, .int .i64 t.n, .int .i64 0] 91 (0, 0))
        generalize (w2.alloc (.cells #[.int .i64 t.kind, .string ⟨t.s.toArray⟩, .int .i64 t.n, .int .i64 0] 91 (0, 0))) = w4 at *
        clear hb2
        obtain ⟨c0, c1, c2, c3, _, _, _, _⟩ := tok_block hb4
        obtain ⟨x0, x1, x2, x3, _, _, _, _⟩ := tok_block hb5
        have HC := Lib.hid (And.intro (And.intro c0 (And.intro c1 (And.intro c2 c3))) (And.intro x0 (And.intro x1 (And.intro x2 x3))))
        clear c0 c1 c2 c3 x0 x1 x2 x3
        cases hks : ((k : Int) == (X.size : Int)) with
        | false =>
          refine wp_region_chain (fun W' => (W'.cell? ⟨w.heap.size, 0, none⟩ = some (.int .i64 2) ∧ W'.cell? ⟨w.heap.size, 1, none⟩ = some (.string S) ∧ W'.cell? ⟨w.heap.size, 2, none⟩ = some (.int .i64 N) ∧ W'.cell? ⟨w.heap.size, 3, none⟩ = some (.int .i64 At)) ∧
            (W'.cell? ⟨w2.heap.size, 0, none⟩ = some (.int .i64 t.kind) ∧ W'.cell? ⟨w2.heap.size, 1, none⟩ = some (.string ⟨t.s.toArray⟩) ∧ W'.cell? ⟨w2.heap.size, 2, none⟩ = some (.int .i64 t.n) ∧ W'.cell? ⟨w2.heap.size, 3, none⟩ = some (.int .i64 0))) [] [(0, 0), (1, 0), (2, 0), (3, 0), (4, 0), (5, 0), (6, 0), (7, 0), (8, 0), (9, 0), (10, 1), (11, 0), (12, 1), (13, 0), (14, 0), (15, 0), (16, 0), (17, 1), (18, 0), (19, 1), (20, 0), (21, 0), (22, 0), (23, 0), (24, 1), (25, 0), (26, 1), (27, 0), (28, 0), (29, 0), (30, 0)] (by kernel_rfl) (by kernel_rfl) (fun _ d _ _ _ h => by cases d <;> exact h) HC.out ?_
          repeat (first
            | (refine wpC_pure (v := ?_) rfl (by rfl) ?_ ?_
               rotate_left 1
               · (intro w; go_simp; try with_reducible rfl)
               try simp only [Act.put, List.setIfInBounds_toArray, List.set_cons_zero, List.set_cons_succ, List.getElem_toArray, List.getElem_cons_succ, List.getElem_cons_zero])
            | (refine wpC_held (v := ?_) rfl (by rfl) ?_ ?_
               rotate_left 1
               · (rintro w ⟨⟨c0, c1, c2, c3⟩, ⟨x0, x1, x2, x3⟩⟩; go_simp; try with_reducible rfl)
               try simp only [Act.put, List.setIfInBounds_toArray, List.set_cons_zero, List.set_cons_succ, List.getElem_toArray, List.getElem_cons_succ, List.getElem_cons_zero])
            | (refine wpC_pass rfl (by rfl) (by decide) ?_
               try simp only [Act.put, List.setIfInBounds_toArray, List.set_cons_zero, List.set_cons_succ, List.getElem_toArray, List.getElem_cons_succ, List.getElem_cons_zero]))
          refine wpC_nil ?_
          go_wp2_with fail
          go_returns
          refine ⟨.of_some (k := k) (t := t) HX.out HL.out ⟨fun h => (by cases h), ?_⟩ rfl, hk3.drew⟩
          rintro ⟨h1, h2, h3, h4⟩
          rw [beq_eq_false_iff_ne] at hks
          omega
        | true =>
          cases hkd : ((t.kind : Int) == 2) with
          | false =>
            refine wp_region_chain (fun W' => (W'.cell? ⟨w.heap.size, 0, none⟩ = some (.int .i64 2) ∧ W'.cell? ⟨w.heap.size, 1, none⟩ = some (.string S) ∧ W'.cell? ⟨w.heap.size, 2, none⟩ = some (.int .i64 N) ∧ W'.cell? ⟨w.heap.size, 3, none⟩ = some (.int .i64 At)) ∧
              (W'.cell? ⟨w2.heap.size, 0, none⟩ = some (.int .i64 t.kind) ∧ W'.cell? ⟨w2.heap.size, 1, none⟩ = some (.string ⟨t.s.toArray⟩) ∧ W'.cell? ⟨w2.heap.size, 2, none⟩ = some (.int .i64 t.n) ∧ W'.cell? ⟨w2.heap.size, 3, none⟩ = some (.int .i64 0))) [] [(0, 0), (1, 0), (2, 0), (3, 0), (4, 0), (5, 0), (6, 0), (7, 0), (8, 0), (9, 0), (10, 1), (11, 0), (12, 1), (13, 0), (14, 0), (15, 0), (16, 0), (17, 1), (18, 0), (19, 1), (20, 0), (21, 0), (22, 0), (23, 0), (24, 1), (25, 0), (26, 1), (27, 0), (28, 0), (29, 0), (30, 0)] (by kernel_rfl) (by kernel_rfl) (fun _ d _ _ _ h => by cases d <;> exact h) HC.out ?_
            repeat (first
              | (refine wpC_pure (v := ?_) rfl (by rfl) ?_ ?_
                 rotate_left 1
                 · (intro w; go_simp; try with_reducible rfl)
                 try simp only [Act.put, List.setIfInBounds_toArray, List.set_cons_zero, List.set_cons_succ, List.getElem_toArray, List.getElem_cons_succ, List.getElem_cons_zero])
              | (refine wpC_held (v := ?_) rfl (by rfl) ?_ ?_
                 rotate_left 1
                 · (rintro w ⟨⟨c0, c1, c2, c3⟩, ⟨x0, x1, x2, x3⟩⟩; go_simp; try with_reducible rfl)
                 try simp only [Act.put, List.setIfInBounds_toArray, List.set_cons_zero, List.set_cons_succ, List.getElem_toArray, List.getElem_cons_succ, List.getElem_cons_zero])
              | (refine wpC_pass rfl (by rfl) (by decide) ?_
                 try simp only [Act.put, List.setIfInBounds_toArray, List.set_cons_zero, List.set_cons_succ, List.getElem_toArray, List.getElem_cons_succ, List.getElem_cons_zero]))
            refine wpC_nil ?_
            go_wp2_with fail
            go_returns
            refine ⟨.of_some (k := k) (t := t) HX.out HL.out ⟨fun h => (by cases h), ?_⟩ rfl, hk3.drew⟩
            rintro ⟨h1, h2, h3, h4⟩
            rw [beq_eq_false_iff_ne] at hkd
            exact absurd h2 hkd
          | true =>
            cases hst : (t.s == S.toList) with
            | false =>
              refine wp_region_chain (fun W' => (W'.cell? ⟨w.heap.size, 0, none⟩ = some (.int .i64 2) ∧ W'.cell? ⟨w.heap.size, 1, none⟩ = some (.string S) ∧ W'.cell? ⟨w.heap.size, 2, none⟩ = some (.int .i64 N) ∧ W'.cell? ⟨w.heap.size, 3, none⟩ = some (.int .i64 At)) ∧
                (W'.cell? ⟨w2.heap.size, 0, none⟩ = some (.int .i64 t.kind) ∧ W'.cell? ⟨w2.heap.size, 1, none⟩ = some (.string ⟨t.s.toArray⟩) ∧ W'.cell? ⟨w2.heap.size, 2, none⟩ = some (.int .i64 t.n) ∧ W'.cell? ⟨w2.heap.size, 3, none⟩ = some (.int .i64 0))) [] [(0, 0), (1, 0), (2, 0), (3, 0), (4, 0), (5, 0), (6, 0), (7, 0), (8, 0), (9, 0), (10, 1), (11, 0), (12, 1), (13, 0), (14, 0), (15, 0), (16, 0), (17, 1), (18, 0), (19, 1), (20, 0), (21, 0), (22, 0), (23, 0), (24, 1), (25, 0), (26, 1), (27, 0), (28, 0), (29, 0), (30, 0)] (by kernel_rfl) (by kernel_rfl) (fun _ d _ _ _ h => by cases d <;> exact h) HC.out ?_
              repeat (first
                | (refine wpC_pure (v := ?_) rfl (by rfl) ?_ ?_
                   rotate_left 1
                   · (intro w; go_simp; try with_reducible rfl)
                   try simp only [Act.put, List.setIfInBounds_toArray, List.set_cons_zero, List.set_cons_succ, List.getElem_toArray, List.getElem_cons_succ, List.getElem_cons_zero])
                | (refine wpC_held (v := ?_) rfl (by rfl) ?_ ?_
                   rotate_left 1
                   · (rintro w ⟨⟨c0, c1, c2, c3⟩, ⟨x0, x1, x2, x3⟩⟩; go_simp; try with_reducible rfl)
                   try simp only [Act.put, List.setIfInBounds_toArray, List.set_cons_zero, List.set_cons_succ, List.getElem_toArray, List.getElem_cons_succ, List.getElem_cons_zero])
                | (refine wpC_pass rfl (by rfl) (by decide) ?_
                   try simp only [Act.put, List.setIfInBounds_toArray, List.set_cons_zero, List.set_cons_succ, List.getElem_toArray, List.getElem_cons_succ, List.getElem_cons_zero]))
              refine wpC_nil ?_
              go_wp2_with fail
              go_returns
              refine ⟨.of_some (k := k) (t := t) HX.out HL.out ⟨fun h => (by cases h), ?_⟩ rfl, hk3.drew⟩
              rintro ⟨h1, h2, h3, h4⟩
              rw [beq_eq_false_iff_ne] at hst
              rw [← h3, ByteArray.toList_eq] at hst
              exact absurd rfl hst
            | true =>
              cases hnn : ((t.n : Int) == N) with
              | false =>
                refine wp_region_chain (fun W' => (W'.cell? ⟨w.heap.size, 0, none⟩ = some (.int .i64 2) ∧ W'.cell? ⟨w.heap.size, 1, none⟩ = some (.string S) ∧ W'.cell? ⟨w.heap.size, 2, none⟩ = some (.int .i64 N) ∧ W'.cell? ⟨w.heap.size, 3, none⟩ = some (.int .i64 At)) ∧
                  (W'.cell? ⟨w2.heap.size, 0, none⟩ = some (.int .i64 t.kind) ∧ W'.cell? ⟨w2.heap.size, 1, none⟩ = some (.string ⟨t.s.toArray⟩) ∧ W'.cell? ⟨w2.heap.size, 2, none⟩ = some (.int .i64 t.n) ∧ W'.cell? ⟨w2.heap.size, 3, none⟩ = some (.int .i64 0))) [] [(0, 0), (1, 0), (2, 0), (3, 0), (4, 0), (5, 0), (6, 0), (7, 0), (8, 0), (9, 0), (10, 1), (11, 0), (12, 1), (13, 0), (14, 0), (15, 0), (16, 0), (17, 1), (18, 0), (19, 1), (20, 0), (21, 0), (22, 0), (23, 0), (24, 1), (25, 0), (26, 1), (27, 0), (28, 0), (29, 0), (30, 0)] (by kernel_rfl) (by kernel_rfl) (fun _ d _ _ _ h => by cases d <;> exact h) HC.out ?_
                repeat (first
                  | (refine wpC_pure (v := ?_) rfl (by rfl) ?_ ?_
                     rotate_left 1
                     · (intro w; go_simp; try with_reducible rfl)
                     try simp only [Act.put, List.setIfInBounds_toArray, List.set_cons_zero, List.set_cons_succ, List.getElem_toArray, List.getElem_cons_succ, List.getElem_cons_zero])
                  | (refine wpC_held (v := ?_) rfl (by rfl) ?_ ?_
                     rotate_left 1
                     · (rintro w ⟨⟨c0, c1, c2, c3⟩, ⟨x0, x1, x2, x3⟩⟩; go_simp; try with_reducible rfl)
                     try simp only [Act.put, List.setIfInBounds_toArray, List.set_cons_zero, List.set_cons_succ, List.getElem_toArray, List.getElem_cons_succ, List.getElem_cons_zero])
                  | (refine wpC_pass rfl (by rfl) (by decide) ?_
                     try simp only [Act.put, List.setIfInBounds_toArray, List.set_cons_zero, List.set_cons_succ, List.getElem_toArray, List.getElem_cons_succ, List.getElem_cons_zero]))
                refine wpC_nil ?_
                go_wp2_with fail
                go_returns
                refine ⟨.of_some (k := k) (t := t) HX.out HL.out ⟨fun h => (by cases h), ?_⟩ rfl, hk3.drew⟩
                rintro ⟨h1, h2, h3, h4⟩
                rw [beq_eq_false_iff_ne] at hnn
                exact absurd h4 hnn
              | true =>
                refine wp_region_chain (fun W' => (W'.cell? ⟨w.heap.size, 0, none⟩ = some (.int .i64 2) ∧ W'.cell? ⟨w.heap.size, 1, none⟩ = some (.string S) ∧ W'.cell? ⟨w.heap.size, 2, none⟩ = some (.int .i64 N) ∧ W'.cell? ⟨w.heap.size, 3, none⟩ = some (.int .i64 At)) ∧
                  (W'.cell? ⟨w2.heap.size, 0, none⟩ = some (.int .i64 t.kind) ∧ W'.cell? ⟨w2.heap.size, 1, none⟩ = some (.string ⟨t.s.toArray⟩) ∧ W'.cell? ⟨w2.heap.size, 2, none⟩ = some (.int .i64 t.n) ∧ W'.cell? ⟨w2.heap.size, 3, none⟩ = some (.int .i64 0))) [] [(0, 0), (1, 0), (2, 0), (3, 0), (4, 0), (5, 0), (6, 0), (7, 0), (8, 0), (9, 0), (10, 1), (11, 0), (12, 1), (13, 0), (14, 0), (15, 0), (16, 0), (17, 1), (18, 0), (19, 1), (20, 0), (21, 0), (22, 0), (23, 0), (24, 1), (25, 0), (26, 1), (27, 0), (28, 0), (29, 0), (30, 0)] (by kernel_rfl) (by kernel_rfl) (fun _ d _ _ _ h => by cases d <;> exact h) HC.out ?_
                repeat (first
                  | (refine wpC_pure (v := ?_) rfl (by rfl) ?_ ?_
                     rotate_left 1
                     · (intro w; go_simp; try with_reducible rfl)
                     try simp only [Act.put, List.setIfInBounds_toArray, List.set_cons_zero, List.set_cons_succ, List.getElem_toArray, List.getElem_cons_succ, List.getElem_cons_zero])
                  | (refine wpC_held (v := ?_) rfl (by rfl) ?_ ?_
                     rotate_left 1
                     · (rintro w ⟨⟨c0, c1, c2, c3⟩, ⟨x0, x1, x2, x3⟩⟩; go_simp; try with_reducible rfl)
                     try simp only [Act.put, List.setIfInBounds_toArray, List.set_cons_zero, List.set_cons_succ, List.getElem_toArray, List.getElem_cons_succ, List.getElem_cons_zero])
                  | (refine wpC_pass rfl (by rfl) (by decide) ?_
                     try simp only [Act.put, List.setIfInBounds_toArray, List.set_cons_zero, List.set_cons_succ, List.getElem_toArray, List.getElem_cons_succ, List.getElem_cons_zero]))
                refine wpC_nil ?_
                go_wp2_with fail
                go_returns
                refine ⟨.of_some (k := k) (t := t) HX.out HL.out ⟨fun _ => ⟨by have := eq_of_beq hks; omega, eq_of_beq hkd, ?_, eq_of_beq hnn⟩, fun _ => rfl⟩ rfl, hk3.drew⟩
                have h3 := eq_of_beq hst
                rw [h3, ByteArray.toList_eq]
    · have hne : S.data.toList ≠ [] := by
        intro h
        have := congrArg List.length h
        exact he this
      have HNo := Lib.hid (no_text (N := N) hne)
      have hemp0 : S.toList.isEmpty = false := not_empty (by omega)
      clear hne
      go_wp2_with fail
      go_returns
      exact ⟨.of_no HNo.out rfl, hk0.alloc _⟩

theorem refWritten_any (K N At : Int) (S : ByteArray) (w : World) (hN : -9223372036854775808 ≤ N ∧ N ≤ 9223372036854775807) (hS : S.size ≤ 140737488351232) :
    Calls Tryz.prog 49 #[.agg #[.int .i64 K, .string S, .int .i64 N, .int .i64 At]] w fun e w' => WrittenOut K S N e ∧ Keeps [] w w' := by
  by_cases h2 : K = 2
  · subst h2; exact refWritten_num N At S w hN hS
  · by_cases h3 : K = 3
    · subst h3; exact refWritten_text N At S w hN hS
    · exact refWritten_plain K N At S w hN hS h2 h3

end Go.Proofs.YtefcmijobbgpbaaGreatDoor

namespace Go.Proofs.YtefcmijobbgpbaaGreatDoor
open Go.RowKit

theorem u8_info : ∃ i, Tryz.prog.info? 5 = some i ∧ i.zero = some (.int .u8 0) ∧ i.size = 1 ∧ i.bytes = 1 := by
  have h : (Tryz.prog.info? 5).map (fun i => (i.zero, i.size, i.bytes)) = some (some (.int .u8 0), 1, 1) := by kernel_rfl
  cases hi : Tryz.prog.info? 5 with
  | none => rw [hi] at h; cases h
  | some i =>
    rw [hi] at h
    simp only [Option.map_some, Option.some.injEq, Prod.mk.injEq] at h
    exact ⟨i, rfl, h.1, h.2.1, h.2.2⟩

theorem push_all (l : List UInt8) : ∀ B : ByteArray, (l.map fun b => (b.toNat : Int)).foldl (fun r n => r.push (UInt8.ofNat n.toNat)) B = ⟨(B.data.toList ++ l).toArray⟩ := by
  induction l with
  | nil => intro B; simp
  | cons c l ih =>
    intro B
    rw [List.map_cons, List.foldl_cons, ih]
    apply ByteArray.ext
    simp

theorem conv_own {w : World} {base n : Nat} {ao : Option Addr} {cp : Nat} {B : ByteArray} (h : w.ownsRow base 5 1 (.slice ao n cp) n (Lib.strCells B)) :
    (convert 124 9 (.slice ao n cp)).run Tryz.prog w = .ok (.string B) w := by
  rw [run_convert_bytes_string w 124 9 5 _ _ _ Tryz.underlying124 Tryz.underlying5 Tryz.underlying9]
  have hl := h.1
  rw [Lib.strCells_length, Nat.mul_one] at hl
  have hB : ∀ r : ByteArray, r = ⟨(ByteArray.empty.data.toList ++ B.data.toList).toArray⟩ → r = B := by
    rintro r rfl
    apply ByteArray.ext
    show (([] : List UInt8) ++ B.data.toList).toArray = B.data
    simp
  rcases h.2 with ⟨he, h0⟩ | ⟨g, cap, cur, he, hb, hg, hnc, hm, hs, ht⟩
  · cases he
    have h1 : B = ⟨#[]⟩ := by
      apply ByteArray.ext
      exact Array.eq_empty_of_size_eq_zero (by show B.size = 0; omega)
    rw [h1]
    simp [Conv.bytesToString]
    rfl
  · cases he
    have hr := run_bytesToString (P := Tryz.prog) w ⟨g, 0, none⟩ n cp (B.data.toList.map fun b => (b.toNat : Int)) (by
      have := run_loadCells_list (P := Tryz.prog) (w := w) ⟨g, 0, none⟩ (Lib.strCells B) (fun j v hj => h.cells rfl j v hj)
      rw [Lib.strCells_length, hl] at this
      rw [this, List.map_map]
      rfl)
    rw [hr, push_all]
    exact congrArg (fun b => Result.ok (Value.string b) w) (hB _ rfl)

theorem joinW_snoc (ws : List (List UInt8)) (a : List UInt8) : joinW (ws ++ [a]) = if ws = [] then a else joinW ws ++ 32 :: a := by
  induction ws with
  | nil => rfl
  | cons b r ih =>
    cases r with
    | nil => simp [joinW]
    | cons c r =>
      simp only [List.cons_append, joinW] at *
      rw [ih]
      simp

theorem strCells_app (a b : ByteArray) : Lib.strCells (a ++ b) = Lib.strCells a ++ Lib.strCells b := by
  simp [Lib.strCells]

end Go.Proofs.YtefcmijobbgpbaaGreatDoor

namespace Go.Proofs.YtefcmijobbgpbaaGreatDoor
open Go.RowKit

theorem rtU8 : RowTy Tryz.prog 124 5 1 1 := ⟨by kernel_rfl, by kernel_rfl, by decide⟩

end Go.Proofs.YtefcmijobbgpbaaGreatDoor

namespace Go.Proofs.YtefcmijobbgpbaaGreatDoor
open Go.RowKit

theorem run_eqIn_fault (w : World) (a n a' n' : Int) :
    (Op.equalIn 10000 49 (.agg #[.int .i64 a, .int .i64 n]) (.agg #[.int .i64 a', .int .i64 n'])).run Tryz.prog w = .ok ((a == a') && (n == n')) w := by
  rw [run_equalIn_struct w 9999 49 _ _ (by kernel_rfl) (by kernel_rfl)]
  simp only [Program.fieldsOf, Tryz.underlying49]
  simp [Op.eqFields, go_sem]
  by_cases h1 : a = a' <;> by_cases h2 : n = n' <;> simp [h1, h2]

theorem fault_guard : Tryz.prog.eqGuardType Tryz.prog.depth 49 = false := by kernel_rfl

end Go.Proofs.YtefcmijobbgpbaaGreatDoor
