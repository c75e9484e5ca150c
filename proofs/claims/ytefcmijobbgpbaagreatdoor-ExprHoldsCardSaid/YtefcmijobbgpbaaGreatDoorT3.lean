/- T3: contracts and plain laws of tokens, carried over from another seat. Conditions: those of each theorem. -/
import Derived.Test.YtefcmijobbgpbaaGreatDoorT2
import Derived.Laws.StructEq
import Derived.Lib.ItoaLen

set_option maxRecDepth 100000

namespace Go.Proofs.YtefcmijobbgpbaaGreatDoor
open Go.RowKit

theorem run_eqIn_tok (w : World) (a n d a' n' d' : Int) (b b' : ByteArray) :
    (Op.equalIn 10000 91 (.agg #[.int .i64 a, .string b, .int .i64 n, .int .i64 d]) (.agg #[.int .i64 a', .string b', .int .i64 n', .int .i64 d'])).run Tryz.prog w = .ok ((a == a') && ((b.toList == b'.toList) && ((n == n') && (d == d')))) w := by
  rw [run_equalIn_struct w 9999 91 _ _ (by kernel_rfl) (by kernel_rfl)]
  simp only [Program.fieldsOf, Tryz.underlying91]
  simp [Op.eqFields, go_sem]
  by_cases h1 : a = a' <;> by_cases h2 : b.toList = b'.toList <;> by_cases h3 : n = n' <;> by_cases h4 : d = d' <;> simp [h1, h2, h3, h4]

theorem tok_guard : Tryz.prog.eqGuardType Tryz.prog.depth 91 = false := by kernel_rfl

end Go.Proofs.YtefcmijobbgpbaaGreatDoor

namespace Go.Proofs.YtefcmijobbgpbaaGreatDoor
open Go.RowKit

/-- What written answers. -/
def WrittenOut (K : Int) (S : ByteArray) (N : Int) (e : Ending) : Prop :=
  ∃ (r : ByteArray) (o : Bool), e = .returned (.tuple #[.string r, .bool o]) ∧ (match writtenM K S.data.toList N with | some x => o = true ∧ r = ⟨x.toArray⟩ | none => o = false)

/-- What is tried as a token's text. -/
def cand (K : Int) (S : List UInt8) (N : Int) : List UInt8 := if K = 2 then Lib.itoa N else if K = 3 then 39 :: (S ++ [39]) else S

theorem WrittenOut.of_none {K N : Int} {S X r : ByteArray} {e : Ending} (hx : cand K S.data.toList N = X.data.toList) (hl : lexOne X.data.toList = none) (he : e = .returned (.tuple #[.string r, .bool false])) : WrittenOut K S N e := by
  refine ⟨r, false, he, ?_⟩
  have h : writtenM K S.data.toList N = none := by
    unfold cand at hx
    unfold writtenM
    simp only [hx, hl]
  rw [h]
theorem WrittenOut.of_some {K N : Int} {S X : ByteArray} {e : Ending} {t : Tok} {k : Nat} {o : Bool} (hx : cand K S.data.toList N = X.data.toList) (hl : lexOne X.data.toList = some (t, k))
    (ho : o = true ↔ k = X.size ∧ (t.kind : Int) = K ∧ (⟨t.s.toArray⟩ : ByteArray) = S ∧ (t.n : Int) = N) (he : e = .returned (.tuple #[.string X, .bool o])) : WrittenOut K S N e := by
  refine ⟨X, o, he, ?_⟩
  have hs : (⟨t.s.toArray⟩ : ByteArray) = S ↔ t.s = S.data.toList := by
    constructor
    · rintro rfl
      simp
    · intro h
      rw [h]
  have hl2 : X.data.toList.length = X.size := rfl
  have h : writtenM K S.data.toList N = if k = X.size ∧ (t.kind : Int) = K ∧ t.s = S.data.toList ∧ (t.n : Int) = N then some X.data.toList else none := by
    unfold cand at hx
    unfold writtenM
    simp only [hx, hl, hl2]
  rw [h]
  rw [hs] at ho
  split
  · rename_i x hq
    split at hq
    · rename_i hc
      cases hq
      exact ⟨ho.2 hc, by simp⟩
    · cases hq
  · rename_i hq
    split at hq
    · cases hq
    · rename_i hc
      rw [← Bool.not_eq_true]
      exact fun h => hc (ho.1 h)

theorem set3_block {w : World} {B : Nat} {a b c d : Value} {t : TypeId} (h : w.heap[B]? = some (.cells #[a, b, c, d] t)) (p : Value) :
    (w.setCell ⟨B, 3, none⟩ p).heap[B]? = some (.cells #[a, b, c, p] t (0, 0)) := by
  rw [heap_set_self h]
  rfl

theorem eq_fields {t : Tok} {k sz : Nat} {K N : Int} {S : ByteArray} (hk : (k : Int) = (sz : Int)) :
    (((t.kind : Int) == K) && ((t.s == S.toList) && ((t.n : Int) == N))) = true ↔ k = sz ∧ (t.kind : Int) = K ∧ (⟨t.s.toArray⟩ : ByteArray) = S ∧ (t.n : Int) = N := by
  have hs : (⟨t.s.toArray⟩ : ByteArray) = S ↔ t.s = S.toList := by
    rw [ByteArray.toList_eq]
    constructor
    · rintro rfl
      simp
    · intro h
      rw [h]
  rw [hs]
  simp only [Bool.and_eq_true, beq_iff_eq]
  constructor
  · rintro ⟨h1, h2, h3⟩
    exact ⟨by omega, h1, h2, h3⟩
  · rintro ⟨_, h1, h2, h3⟩
    exact ⟨h1, h2, h3⟩

theorem Keeps.grow {S : List Nat} {a w : World} (h : Keeps S a w) (os : Array Obj) : Keeps S a (Sort.grow w os) :=
  h.then ⟨rfl, rfl, rfl, by simp [Sort.grow], fun k hk _ => by simp only [Sort.grow]; rw [Array.getElem?_append_left hk]⟩

theorem pow_tab {w : World} (h : Glob w) : Lib.TabIs Tryz.prog w "internal/strconv.uint64pow10" .u64 Lib.pow10Tab := by
  unfold Lib.TabIs World.var?
  have hg : Tryz.prog.globalNamed "internal/strconv.uint64pow10" = some 3 := by kernel_rfl
  rw [hg]
  obtain ⟨t, fr, hp⟩ := h.pow
  simp only [Option.bind_some, hp]

theorem format_any (n : Int) (h0 : -9223372036854775808 ≤ n) (h1 : n ≤ 9223372036854775807) (w : World) (hG : Glob w) :
    Calls Tryz.prog 71 #[.int .i64 n, .int .i64 10] w fun e w' => e = .returned (.string ⟨(Lib.itoa n).toArray⟩) ∧ Keeps [] w w' :=
  (Tryz.strconv_FormatInt_10 n h0 h1 w (pow_tab hG)).mono fun _ _ ⟨h2, k, os, h3⟩ => ⟨h2, h3 ▸ ((Keeps.refl [] w).drewN k).grow os⟩

theorem decDigits_pos (n : Nat) : 0 < (Lib.decDigits n).length := by
  unfold Lib.decDigits
  split <;> simp
theorem itoa_pos (n : Int) : 0 < (Lib.itoa n).length := by
  unfold Lib.itoa
  split
  · simp
  · exact decDigits_pos _
theorem itoa_le {n : Int} (h0 : -9223372036854775808 ≤ n) (h1 : n ≤ 9223372036854775807) : (Lib.itoa n).length ≤ 281474976710656 := by
  have := Lib.itoa_length_le n h0 h1
  omega

set_option maxHeartbeats 4000000 in
set_option maxRecDepth 100000 in
theorem written_plain (K : Int) (N At : Int) (S : ByteArray) (w : World) (hG : Glob w) (_hN : -9223372036854775808 ≤ N ∧ N ≤ 9223372036854775807) (hS : S.size ≤ 140737488351232) (h2 : K ≠ 2) (h3 : K ≠ 3) :
    Calls Tryz.prog 44 #[.agg #[.int .i64 K, .string S, .int .i64 N, .int .i64 At]] w fun e w' => WrittenOut K S N e ∧ Keeps [] w w' := by
  have hk0 := Keeps.refl [] w
  have HG := Lib.hid hG
  clear hG
  go_enter Tryz.func44, Tryz.ntmps44
  have hx : cand K S.data.toList N = S.data.toList := by unfold cand; rw [if_neg h2, if_neg h3]
  have hd2 : (K == 2) = false := by simp [h2]
  have hd3 : (K == 3) = false := by simp [h3]
  clear h2 h3
  cases hl : lexOne S.data.toList with
  | none =>
    by_cases hne : 0 < S.size
    · have hemp := not_empty hne
      have HOne := fun w h => Lib.hid ((one_any S 0 w h hne (by omega)).mono fun e w' ⟨h1, h2⟩ => (⟨h1.is_none (by simpa using hl), h2⟩ : _ ∧ Keeps [] w w'))
      have HX := Lib.hid hx
      have HL := Lib.hid hl
      clear hx hl hne
      go_wp2_with (first
        | (go_at_call 55; refine (HOne _ (HG.out.keep (hk0.alloc _))).out.mono ?_; rintro e w2 ⟨⟨a, b, n, d, E, rfl⟩, hk2⟩; have hb2 := hk2.heap (heap_alloc_new w (.cells #[.int .i64 K, .string S, .int .i64 N, .int .i64 At] 91 (0, 0))) (by simp); have hlt2 := heap_lt hb2; obtain ⟨c0, c1, c2, c3, z0, z1, z2, z3⟩ := tok_block hb2))
      have hkw := (hk0.alloc (.cells #[.int .i64 K, .string S, .int .i64 N, .int .i64 At] 91 (0, 0))).then hk2
      have hb3 := set3_block hb2 (.int .i64 0)
      have hk3 := (hkw.setCell (.inr (Nat.le_refl w.heap.size)) (p := ⟨w.heap.size, 3, none⟩) (.int .i64 0)).alloc (.cells #[.int .i64 a, .string b, .int .i64 n, .int .i64 d] 91 (0, 0))
      have hb4 := alloc_old hb3 (.cells #[.int .i64 a, .string b, .int .i64 n, .int .i64 d] 91 (0, 0))
      have hb5 := heap_alloc_new (w2.setCell ⟨w.heap.size, 3, none⟩ (.int .i64 0)) (.cells #[.int .i64 a, .string b, .int .i64 n, .int .i64 d] 91 (0, 0))
      have hsz : (w2.setCell ⟨w.heap.size, 3, none⟩ (.int .i64 0)).heap.size = w2.heap.size := by simp [World.setCell]
      rw [hsz] at hb5
      generalize ((w2.setCell ⟨w.heap.size, 3, none⟩ (.int .i64 0)).alloc (.cells #[.int .i64 a, .string b, .int .i64 n, .int .i64 d] 91 (0, 0))) = w4 at *
      clear c0 c1 c2 c3 z0 z1 z2 z3 hb2 hb3 hsz
      obtain ⟨c0, c1, c2, c3, _, _, _, _⟩ := tok_block hb4
      obtain ⟨x0, x1, x2, x3, _, _, _, _⟩ := tok_block hb5
      refine wp_region_chain (fun W' => (W'.cell? ⟨w.heap.size, 0, none⟩ = some (.int .i64 K) ∧ W'.cell? ⟨w.heap.size, 1, none⟩ = some (.string S) ∧ W'.cell? ⟨w.heap.size, 2, none⟩ = some (.int .i64 N) ∧ W'.cell? ⟨w.heap.size, 3, none⟩ = some (.int .i64 0)) ∧
        (W'.cell? ⟨w2.heap.size, 0, none⟩ = some (.int .i64 a) ∧ W'.cell? ⟨w2.heap.size, 1, none⟩ = some (.string b) ∧ W'.cell? ⟨w2.heap.size, 2, none⟩ = some (.int .i64 n) ∧ W'.cell? ⟨w2.heap.size, 3, none⟩ = some (.int .i64 d))) [] [(0, 0), (1, 0), (2, 0), (3, 0), (4, 0), (5, 0), (6, 0), (7, 0), (8, 0), (9, 1), (10, 1), (11, 0), (12, 0), (13, 0), (14, 0)] (by kernel_rfl) (by kernel_rfl) (fun _ d _ _ _ h => by cases d <;> exact h) ⟨⟨c0, c1, c2, c3⟩, ⟨x0, x1, x2, x3⟩⟩ ?_
      clear c0 c1 c2 c3 x0 x1 x2 x3
      repeat (first
        | (refine wpC_pure (v := ?_) rfl (by rfl) ?_ ?_
           rotate_left 1
           · (intro w; go_simp; try with_reducible rfl)
           try simp only [Act.put, List.setIfInBounds_toArray, List.set_cons_zero, List.set_cons_succ, List.getElem_toArray, List.getElem_cons_succ, List.getElem_cons_zero])
        | (refine wpC_held (v := ?_) rfl (by rfl) ?_ ?_
           rotate_left 1
           · (rintro w ⟨⟨c0, c1, c2, c3⟩, ⟨x0, x1, x2, x3⟩⟩; go_simp; try with_reducible rfl)
           try simp only [Act.put, List.setIfInBounds_toArray, List.set_cons_zero, List.set_cons_succ, List.getElem_toArray, List.getElem_cons_succ, List.getElem_cons_zero])
        | (refine wpC_pass rfl (by rfl) (by decide) ?_
           try simp only [Act.put, List.setIfInBounds_toArray, List.set_cons_zero, List.set_cons_succ, List.getElem_toArray, List.getElem_cons_succ, List.getElem_cons_zero]))
      refine wpC_nil ?_
      go_wp2_with fail
      go_returns
      exact ⟨.of_none HX.out HL.out rfl, hk3.drew⟩
    · have hnil : S = ⟨#[]⟩ := by
        apply ByteArray.ext
        exact Array.eq_empty_of_size_eq_zero (by show S.size = 0; omega)
      have hemp : S.toList.isEmpty = true := by rw [hnil, ByteArray.toList_eq]; rfl
      have HX := Lib.hid hx
      have HL := Lib.hid hl
      clear hx hl hnil
      go_wp2_with fail
      go_returns
      exact ⟨.of_none HX.out HL.out rfl, hk0.alloc _⟩
  | some q =>
    obtain ⟨t, k⟩ := q
    have hne : 0 < S.size := by
      have := lexOne_len hl
      have h3 : S.data.toList.length = S.size := rfl
      omega
    have hemp := not_empty hne
    have HOne := fun w h => Lib.hid ((one_any S 0 w h hne (by omega)).mono fun e w' ⟨h1, h2⟩ => (⟨h1.is_some (by simpa using hl), h2⟩ : _ ∧ Keeps [] w w'))
    have HX := Lib.hid hx
    have HL := Lib.hid hl
    clear hx hl hne
    go_wp2_with (first
      | (go_at_call 55; refine (HOne _ (HG.out.keep (hk0.alloc _))).out.mono ?_; rintro e w2 ⟨rfl, hk2⟩; have hb2 := hk2.heap (heap_alloc_new w (.cells #[.int .i64 K, .string S, .int .i64 N, .int .i64 At] 91 (0, 0))) (by simp); have hlt2 := heap_lt hb2; obtain ⟨c0, c1, c2, c3, z0, z1, z2, z3⟩ := tok_block hb2))
    have hkw := (hk0.alloc (.cells #[.int .i64 K, .string S, .int .i64 N, .int .i64 At] 91 (0, 0))).then hk2
    have hb3 := set3_block hb2 (.int .i64 0)
    have hk3 := (hkw.setCell (.inr (Nat.le_refl w.heap.size)) (p := ⟨w.heap.size, 3, none⟩) (.int .i64 0)).alloc (.cells #[.int .i64 t.kind, .string ⟨t.s.toArray⟩, .int .i64 t.n, .int .i64 0] 91 (0, 0))
    have hb4 := alloc_old hb3 (.cells #[.int .i64 t.kind, .string ⟨t.s.toArray⟩, .int .i64 t.n, .int .i64 0] 91 (0, 0))
    have hb5 := heap_alloc_new (w2.setCell ⟨w.heap.size, 3, none⟩ (.int .i64 0)) (.cells #[.int .i64 t.kind, .string ⟨t.s.toArray⟩, .int .i64 t.n, .int .i64 0] 91 (0, 0))
    have hsz : (w2.setCell ⟨w.heap.size, 3, none⟩ (.int .i64 0)).heap.size = w2.heap.size := by simp [World.setCell]
    rw [hsz] at hb5
    generalize ((w2.setCell ⟨w.heap.size, 3, none⟩ (.int .i64 0)).alloc (.cells #[.int .i64 t.kind, .string ⟨t.s.toArray⟩, .int .i64 t.n, .int .i64 0] 91 (0, 0))) = w4 at *
    clear c0 c1 c2 c3 z0 z1 z2 z3 hb2 hb3 hsz
    obtain ⟨c0, c1, c2, c3, _, _, _, _⟩ := tok_block hb4
    obtain ⟨x0, x1, x2, x3, _, _, _, _⟩ := tok_block hb5
    have hE := fun w => run_eqIn_tok w t.kind t.n 0 K N 0 ⟨t.s.toArray⟩ S
    have hEg := tok_guard
    cases hks : ((k : Int) == (S.size : Int))
    all_goals
      refine wp_region_chain (fun W' => (W'.cell? ⟨w.heap.size, 0, none⟩ = some (.int .i64 K) ∧ W'.cell? ⟨w.heap.size, 1, none⟩ = some (.string S) ∧ W'.cell? ⟨w.heap.size, 2, none⟩ = some (.int .i64 N) ∧ W'.cell? ⟨w.heap.size, 3, none⟩ = some (.int .i64 0)) ∧
        (W'.cell? ⟨w2.heap.size, 0, none⟩ = some (.int .i64 t.kind) ∧ W'.cell? ⟨w2.heap.size, 1, none⟩ = some (.string ⟨t.s.toArray⟩) ∧ W'.cell? ⟨w2.heap.size, 2, none⟩ = some (.int .i64 t.n) ∧ W'.cell? ⟨w2.heap.size, 3, none⟩ = some (.int .i64 0))) [] [(0, 0), (1, 0), (2, 0), (3, 0), (4, 0), (5, 0), (6, 0), (7, 0), (8, 0), (9, 1), (10, 1), (11, 0), (12, 0), (13, 0), (14, 0)] (by kernel_rfl) (by kernel_rfl) (fun _ d _ _ _ h => by cases d <;> exact h) ⟨⟨c0, c1, c2, c3⟩, ⟨x0, x1, x2, x3⟩⟩ ?_
      clear c0 c1 c2 c3 x0 x1 x2 x3
      repeat (first
        | (refine wpC_pure (v := ?_) rfl (by rfl) ?_ ?_
           rotate_left 1
           · (intro w; go_simp; try with_reducible rfl)
           try simp only [Act.put, List.setIfInBounds_toArray, List.set_cons_zero, List.set_cons_succ, List.getElem_toArray, List.getElem_cons_succ, List.getElem_cons_zero])
        | (refine wpC_held (v := ?_) rfl (by rfl) ?_ ?_
           rotate_left 1
           · (rintro w ⟨⟨c0, c1, c2, c3⟩, ⟨x0, x1, x2, x3⟩⟩; go_simp; try with_reducible rfl)
           try simp only [Act.put, List.setIfInBounds_toArray, List.set_cons_zero, List.set_cons_succ, List.getElem_toArray, List.getElem_cons_succ, List.getElem_cons_zero])
        | (refine wpC_pass rfl (by rfl) (by decide) ?_
           try simp only [Act.put, List.setIfInBounds_toArray, List.set_cons_zero, List.set_cons_succ, List.getElem_toArray, List.getElem_cons_succ, List.getElem_cons_zero]))
      refine wpC_nil ?_
      go_wp2_with fail
      go_returns
    · refine ⟨.of_some (k := k) (t := t) HX.out HL.out ?_ rfl, hk3.drew⟩
      refine ⟨fun h => (by cases h), ?_⟩
      rintro ⟨rfl, _⟩
      simp at hks
    · refine ⟨.of_some (k := k) (t := t) HX.out HL.out ?_ rfl, hk3.drew⟩
      exact eq_fields (eq_of_beq hks)

set_option maxHeartbeats 4000000 in
set_option maxRecDepth 100000 in
theorem written_text (N At : Int) (S : ByteArray) (w : World) (hG : Glob w) (_hN : -9223372036854775808 ≤ N ∧ N ≤ 9223372036854775807) (hS : S.size ≤ 140737488351232) :
    Calls Tryz.prog 44 #[.agg #[.int .i64 3, .string S, .int .i64 N, .int .i64 At]] w fun e w' => WrittenOut 3 S N e ∧ Keeps [] w w' := by
  have hk0 := Keeps.refl [] w
  have HG := Lib.hid hG
  clear hG
  go_enter Tryz.func44, Tryz.ntmps44
  have hx : cand 3 S.data.toList N = ((⟨#[39]⟩ : ByteArray) ++ S ++ (⟨#[39]⟩ : ByteArray)).data.toList := by unfold cand; rw [if_neg (by decide), if_pos rfl]; simp [ByteArray.data_append]
  have hsz3 : ((⟨#[39]⟩ : ByteArray) ++ S ++ (⟨#[39]⟩ : ByteArray)).size = S.size + 2 := by rw [ByteArray.size_append, ByteArray.size_append]; show 1 + S.size + 1 = S.size + 2; omega
  have hne : 0 < ((⟨#[39]⟩ : ByteArray) ++ S ++ (⟨#[39]⟩ : ByteArray)).size := by omega
  cases hl : lexOne ((⟨#[39]⟩ : ByteArray) ++ S ++ (⟨#[39]⟩ : ByteArray)).data.toList with
  | none =>
    have hemp := not_empty hne
    have HOne := fun w h => Lib.hid ((one_any ((⟨#[39]⟩ : ByteArray) ++ S ++ (⟨#[39]⟩ : ByteArray)) 0 w h hne (by omega)).mono fun e w' ⟨h1, h2⟩ => (⟨h1.is_none (by simpa using hl), h2⟩ : _ ∧ Keeps [] w w'))
    have HX := Lib.hid hx
    have HL := Lib.hid hl
    clear hx hl hne
    go_wp2_with (first
      | (go_at_call 55; refine (HOne _ (HG.out.keep (hk0.alloc _))).out.mono ?_; rintro e w2 ⟨⟨a, b, n, d, E, rfl⟩, hk2⟩; have hb2 := hk2.heap (heap_alloc_new w (.cells #[.int .i64 3, .string S, .int .i64 N, .int .i64 At] 91 (0, 0))) (by simp); have hlt2 := heap_lt hb2; obtain ⟨c0, c1, c2, c3, z0, z1, z2, z3⟩ := tok_block hb2))
    clear hsz3
    generalize ((⟨#[39]⟩ : ByteArray) ++ S ++ (⟨#[39]⟩ : ByteArray)) = X at *
    have hkw := (hk0.alloc (.cells #[.int .i64 3, .string S, .int .i64 N, .int .i64 At] 91 (0, 0))).then hk2
    have hb3 := set3_block hb2 (.int .i64 0)
    have hk3 := (hkw.setCell (.inr (Nat.le_refl w.heap.size)) (p := ⟨w.heap.size, 3, none⟩) (.int .i64 0)).alloc (.cells #[.int .i64 a, .string b, .int .i64 n, .int .i64 d] 91 (0, 0))
    have hb4 := alloc_old hb3 (.cells #[.int .i64 a, .string b, .int .i64 n, .int .i64 d] 91 (0, 0))
    have hb5 := heap_alloc_new (w2.setCell ⟨w.heap.size, 3, none⟩ (.int .i64 0)) (.cells #[.int .i64 a, .string b, .int .i64 n, .int .i64 d] 91 (0, 0))
    have hsz : (w2.setCell ⟨w.heap.size, 3, none⟩ (.int .i64 0)).heap.size = w2.heap.size := by simp [World.setCell]
    rw [hsz] at hb5
    generalize ((w2.setCell ⟨w.heap.size, 3, none⟩ (.int .i64 0)).alloc (.cells #[.int .i64 a, .string b, .int .i64 n, .int .i64 d] 91 (0, 0))) = w4 at *
    clear c0 c1 c2 c3 z0 z1 z2 z3 hb2 hb3 hsz
    obtain ⟨c0, c1, c2, c3, _, _, _, _⟩ := tok_block hb4
    obtain ⟨x0, x1, x2, x3, _, _, _, _⟩ := tok_block hb5
    refine wp_region_chain (fun W' => (W'.cell? ⟨w.heap.size, 0, none⟩ = some (.int .i64 3) ∧ W'.cell? ⟨w.heap.size, 1, none⟩ = some (.string S) ∧ W'.cell? ⟨w.heap.size, 2, none⟩ = some (.int .i64 N) ∧ W'.cell? ⟨w.heap.size, 3, none⟩ = some (.int .i64 0)) ∧
      (W'.cell? ⟨w2.heap.size, 0, none⟩ = some (.int .i64 a) ∧ W'.cell? ⟨w2.heap.size, 1, none⟩ = some (.string b) ∧ W'.cell? ⟨w2.heap.size, 2, none⟩ = some (.int .i64 n) ∧ W'.cell? ⟨w2.heap.size, 3, none⟩ = some (.int .i64 d))) [] [(0, 0), (1, 0), (2, 0), (3, 0), (4, 0), (5, 0), (6, 0), (7, 0), (8, 0), (9, 1), (10, 1), (11, 0), (12, 0), (13, 0), (14, 0)] (by kernel_rfl) (by kernel_rfl) (fun _ d _ _ _ h => by cases d <;> exact h) ⟨⟨c0, c1, c2, c3⟩, ⟨x0, x1, x2, x3⟩⟩ ?_
    clear c0 c1 c2 c3 x0 x1 x2 x3
    repeat (first
      | (refine wpC_pure (v := ?_) rfl (by rfl) ?_ ?_
         rotate_left 1
         · (intro w; go_simp; try with_reducible rfl)
         try simp only [Act.put, List.setIfInBounds_toArray, List.set_cons_zero, List.set_cons_succ, List.getElem_toArray, List.getElem_cons_succ, List.getElem_cons_zero])
      | (refine wpC_held (v := ?_) rfl (by rfl) ?_ ?_
         rotate_left 1
         · (rintro w ⟨⟨c0, c1, c2, c3⟩, ⟨x0, x1, x2, x3⟩⟩; go_simp; try with_reducible rfl)
         try simp only [Act.put, List.setIfInBounds_toArray, List.set_cons_zero, List.set_cons_succ, List.getElem_toArray, List.getElem_cons_succ, List.getElem_cons_zero])
      | (refine wpC_pass rfl (by rfl) (by decide) ?_
         try simp only [Act.put, List.setIfInBounds_toArray, List.set_cons_zero, List.set_cons_succ, List.getElem_toArray, List.getElem_cons_succ, List.getElem_cons_zero]))
    refine wpC_nil ?_
    go_wp2_with fail
    go_returns
    exact ⟨.of_none HX.out HL.out rfl, hk3.drew⟩
  | some q =>
    obtain ⟨t, k⟩ := q
    have hemp := not_empty hne
    have HOne := fun w h => Lib.hid ((one_any ((⟨#[39]⟩ : ByteArray) ++ S ++ (⟨#[39]⟩ : ByteArray)) 0 w h hne (by omega)).mono fun e w' ⟨h1, h2⟩ => (⟨h1.is_some (by simpa using hl), h2⟩ : _ ∧ Keeps [] w w'))
    have HX := Lib.hid hx
    have HL := Lib.hid hl
    clear hx hl hne
    go_wp2_with (first
      | (go_at_call 55; refine (HOne _ (HG.out.keep (hk0.alloc _))).out.mono ?_; rintro e w2 ⟨rfl, hk2⟩; have hb2 := hk2.heap (heap_alloc_new w (.cells #[.int .i64 3, .string S, .int .i64 N, .int .i64 At] 91 (0, 0))) (by simp); have hlt2 := heap_lt hb2; obtain ⟨c0, c1, c2, c3, z0, z1, z2, z3⟩ := tok_block hb2))
    clear hsz3
    generalize ((⟨#[39]⟩ : ByteArray) ++ S ++ (⟨#[39]⟩ : ByteArray)) = X at *
    have hkw := (hk0.alloc (.cells #[.int .i64 3, .string S, .int .i64 N, .int .i64 At] 91 (0, 0))).then hk2
    have hb3 := set3_block hb2 (.int .i64 0)
    have hk3 := (hkw.setCell (.inr (Nat.le_refl w.heap.size)) (p := ⟨w.heap.size, 3, none⟩) (.int .i64 0)).alloc (.cells #[.int .i64 t.kind, .string ⟨t.s.toArray⟩, .int .i64 t.n, .int .i64 0] 91 (0, 0))
    have hb4 := alloc_old hb3 (.cells #[.int .i64 t.kind, .string ⟨t.s.toArray⟩, .int .i64 t.n, .int .i64 0] 91 (0, 0))
    have hb5 := heap_alloc_new (w2.setCell ⟨w.heap.size, 3, none⟩ (.int .i64 0)) (.cells #[.int .i64 t.kind, .string ⟨t.s.toArray⟩, .int .i64 t.n, .int .i64 0] 91 (0, 0))
    have hsz : (w2.setCell ⟨w.heap.size, 3, none⟩ (.int .i64 0)).heap.size = w2.heap.size := by simp [World.setCell]
    rw [hsz] at hb5
    generalize ((w2.setCell ⟨w.heap.size, 3, none⟩ (.int .i64 0)).alloc (.cells #[.int .i64 t.kind, .string ⟨t.s.toArray⟩, .int .i64 t.n, .int .i64 0] 91 (0, 0))) = w4 at *
    clear c0 c1 c2 c3 z0 z1 z2 z3 hb2 hb3 hsz
    obtain ⟨c0, c1, c2, c3, _, _, _, _⟩ := tok_block hb4
    obtain ⟨x0, x1, x2, x3, _, _, _, _⟩ := tok_block hb5
    have hE := fun w => run_eqIn_tok w t.kind t.n 0 3 N 0 ⟨t.s.toArray⟩ S
    have hEg := tok_guard
    cases hks : ((k : Int) == (X.size : Int))
    all_goals
      refine wp_region_chain (fun W' => (W'.cell? ⟨w.heap.size, 0, none⟩ = some (.int .i64 3) ∧ W'.cell? ⟨w.heap.size, 1, none⟩ = some (.string S) ∧ W'.cell? ⟨w.heap.size, 2, none⟩ = some (.int .i64 N) ∧ W'.cell? ⟨w.heap.size, 3, none⟩ = some (.int .i64 0)) ∧
        (W'.cell? ⟨w2.heap.size, 0, none⟩ = some (.int .i64 t.kind) ∧ W'.cell? ⟨w2.heap.size, 1, none⟩ = some (.string ⟨t.s.toArray⟩) ∧ W'.cell? ⟨w2.heap.size, 2, none⟩ = some (.int .i64 t.n) ∧ W'.cell? ⟨w2.heap.size, 3, none⟩ = some (.int .i64 0))) [] [(0, 0), (1, 0), (2, 0), (3, 0), (4, 0), (5, 0), (6, 0), (7, 0), (8, 0), (9, 1), (10, 1), (11, 0), (12, 0), (13, 0), (14, 0)] (by kernel_rfl) (by kernel_rfl) (fun _ d _ _ _ h => by cases d <;> exact h) ⟨⟨c0, c1, c2, c3⟩, ⟨x0, x1, x2, x3⟩⟩ ?_
      clear c0 c1 c2 c3 x0 x1 x2 x3
      repeat (first
        | (refine wpC_pure (v := ?_) rfl (by rfl) ?_ ?_
           rotate_left 1
           · (intro w; go_simp; try with_reducible rfl)
           try simp only [Act.put, List.setIfInBounds_toArray, List.set_cons_zero, List.set_cons_succ, List.getElem_toArray, List.getElem_cons_succ, List.getElem_cons_zero])
        | (refine wpC_held (v := ?_) rfl (by rfl) ?_ ?_
           rotate_left 1
           · (rintro w ⟨⟨c0, c1, c2, c3⟩, ⟨x0, x1, x2, x3⟩⟩; go_simp; try with_reducible rfl)
           try simp only [Act.put, List.setIfInBounds_toArray, List.set_cons_zero, List.set_cons_succ, List.getElem_toArray, List.getElem_cons_succ, List.getElem_cons_zero])
        | (refine wpC_pass rfl (by rfl) (by decide) ?_
           try simp only [Act.put, List.setIfInBounds_toArray, List.set_cons_zero, List.set_cons_succ, List.getElem_toArray, List.getElem_cons_succ, List.getElem_cons_zero]))
      refine wpC_nil ?_
      go_wp2_with fail
      go_returns
    · refine ⟨.of_some (k := k) (t := t) HX.out HL.out ?_ rfl, hk3.drew⟩
      refine ⟨fun h => (by cases h), ?_⟩
      rintro ⟨rfl, _⟩
      simp at hks
    · refine ⟨.of_some (k := k) (t := t) HX.out HL.out ?_ rfl, hk3.drew⟩
      exact eq_fields (eq_of_beq hks)

set_option maxHeartbeats 4000000 in
set_option maxRecDepth 100000 in
theorem written_num (N At : Int) (S : ByteArray) (w : World) (hG : Glob w) (hN : -9223372036854775808 ≤ N ∧ N ≤ 9223372036854775807) (_hS : S.size ≤ 140737488351232) :
    Calls Tryz.prog 44 #[.agg #[.int .i64 2, .string S, .int .i64 N, .int .i64 At]] w fun e w' => WrittenOut 2 S N e ∧ Keeps [] w w' := by
  have hk0 := Keeps.refl [] w
  have HG := Lib.hid hG
  clear hG
  go_enter Tryz.func44, Tryz.ntmps44
  have HF0 := fun w h => format_any N hN.1 hN.2 w h
  obtain ⟨X, hX⟩ : ∃ X : ByteArray, X = ⟨(Lib.itoa N).toArray⟩ := ⟨_, rfl⟩
  have hsz3 : X.size = (Lib.itoa N).length := by rw [hX]; simp [ByteArray.size]
  have hne : 0 < X.size := by rw [hsz3]; exact itoa_pos N
  have hs3 : X.size ≤ 281474976710656 := by rw [hsz3]; exact itoa_le hN.1 hN.2
  rw [← hX] at HF0
  have HF := fun w h => Lib.hid (HF0 w h)
  clear HF0 hsz3
  have hx : cand 2 S.data.toList N = X.data.toList := by unfold cand; rw [if_pos rfl, hX]
  clear hX
  cases hl : lexOne X.data.toList with
  | none =>
    have hemp := not_empty hne
    have HOne := fun w h => Lib.hid ((one_any X 0 w h hne (by omega)).mono fun e w' ⟨h1, h2⟩ => (⟨h1.is_none (by simpa using hl), h2⟩ : _ ∧ Keeps [] w w'))
    have HX := Lib.hid hx
    have HL := Lib.hid hl
    clear hx hl hne
    go_wp2_with (first
      | (go_at_call 55; refine (HOne _ (HG.out.keep ((hk0.alloc _).then hk1))).out.mono ?_; rintro e w2 ⟨⟨a, b, n, d, E, rfl⟩, hk2⟩; have hb2 := hk2.heap (hk1.heap (heap_alloc_new w (.cells #[.int .i64 2, .string S, .int .i64 N, .int .i64 At] 91 (0, 0))) (by simp)) (by simp); have hlt2 := heap_lt hb2; obtain ⟨c0, c1, c2, c3, z0, z1, z2, z3⟩ := tok_block hb2)
      | (go_at_call 71; refine (HF _ (HG.out.keep (hk0.alloc _))).out.mono ?_; rintro e w1 ⟨rfl, hk1⟩))
    have hkw := ((hk0.alloc (.cells #[.int .i64 2, .string S, .int .i64 N, .int .i64 At] 91 (0, 0))).then hk1).then hk2
    have hb3 := set3_block hb2 (.int .i64 0)
    have hk3 := (hkw.setCell (.inr (Nat.le_refl w.heap.size)) (p := ⟨w.heap.size, 3, none⟩) (.int .i64 0)).alloc (.cells #[.int .i64 a, .string b, .int .i64 n, .int .i64 d] 91 (0, 0))
    have hb4 := alloc_old hb3 (.cells #[.int .i64 a, .string b, .int .i64 n, .int .i64 d] 91 (0, 0))
    have hb5 := heap_alloc_new (w2.setCell ⟨w.heap.size, 3, none⟩ (.int .i64 0)) (.cells #[.int .i64 a, .string b, .int .i64 n, .int .i64 d] 91 (0, 0))
    have hsz : (w2.setCell ⟨w.heap.size, 3, none⟩ (.int .i64 0)).heap.size = w2.heap.size := by simp [World.setCell]
    rw [hsz] at hb5
    generalize ((w2.setCell ⟨w.heap.size, 3, none⟩ (.int .i64 0)).alloc (.cells #[.int .i64 a, .string b, .int .i64 n, .int .i64 d] 91 (0, 0))) = w4 at *
    clear c0 c1 c2 c3 z0 z1 z2 z3 hb2 hb3 hsz
    obtain ⟨c0, c1, c2, c3, _, _, _, _⟩ := tok_block hb4
    obtain ⟨x0, x1, x2, x3, _, _, _, _⟩ := tok_block hb5
    refine wp_region_chain (fun W' => (W'.cell? ⟨w.heap.size, 0, none⟩ = some (.int .i64 2) ∧ W'.cell? ⟨w.heap.size, 1, none⟩ = some (.string S) ∧ W'.cell? ⟨w.heap.size, 2, none⟩ = some (.int .i64 N) ∧ W'.cell? ⟨w.heap.size, 3, none⟩ = some (.int .i64 0)) ∧
      (W'.cell? ⟨w2.heap.size, 0, none⟩ = some (.int .i64 a) ∧ W'.cell? ⟨w2.heap.size, 1, none⟩ = some (.string b) ∧ W'.cell? ⟨w2.heap.size, 2, none⟩ = some (.int .i64 n) ∧ W'.cell? ⟨w2.heap.size, 3, none⟩ = some (.int .i64 d))) [] [(0, 0), (1, 0), (2, 0), (3, 0), (4, 0), (5, 0), (6, 0), (7, 0), (8, 0), (9, 1), (10, 1), (11, 0), (12, 0), (13, 0), (14, 0)] (by kernel_rfl) (by kernel_rfl) (fun _ d _ _ _ h => by cases d <;> exact h) ⟨⟨c0, c1, c2, c3⟩, ⟨x0, x1, x2, x3⟩⟩ ?_
    clear c0 c1 c2 c3 x0 x1 x2 x3
    repeat (first
      | (refine wpC_pure (v := ?_) rfl (by rfl) ?_ ?_
         rotate_left 1
         · (intro w; go_simp; try with_reducible rfl)
         try simp only [Act.put, List.setIfInBounds_toArray, List.set_cons_zero, List.set_cons_succ, List.getElem_toArray, List.getElem_cons_succ, List.getElem_cons_zero])
      | (refine wpC_held (v := ?_) rfl (by rfl) ?_ ?_
         rotate_left 1
         · (rintro w ⟨⟨c0, c1, c2, c3⟩, ⟨x0, x1, x2, x3⟩⟩; go_simp; try with_reducible rfl)
         try simp only [Act.put, List.setIfInBounds_toArray, List.set_cons_zero, List.set_cons_succ, List.getElem_toArray, List.getElem_cons_succ, List.getElem_cons_zero])
      | (refine wpC_pass rfl (by rfl) (by decide) ?_
         try simp only [Act.put, List.setIfInBounds_toArray, List.set_cons_zero, List.set_cons_succ, List.getElem_toArray, List.getElem_cons_succ, List.getElem_cons_zero]))
    refine wpC_nil ?_
    go_wp2_with fail
    go_returns
    exact ⟨.of_none HX.out HL.out rfl, hk3.drew⟩
  | some q =>
    obtain ⟨t, k⟩ := q
    have hemp := not_empty hne
    have HOne := fun w h => Lib.hid ((one_any X 0 w h hne (by omega)).mono fun e w' ⟨h1, h2⟩ => (⟨h1.is_some (by simpa using hl), h2⟩ : _ ∧ Keeps [] w w'))
    have HX := Lib.hid hx
    have HL := Lib.hid hl
    clear hx hl hne
    go_wp2_with (first
      | (go_at_call 55; refine (HOne _ (HG.out.keep ((hk0.alloc _).then hk1))).out.mono ?_; rintro e w2 ⟨rfl, hk2⟩; have hb2 := hk2.heap (hk1.heap (heap_alloc_new w (.cells #[.int .i64 2, .string S, .int .i64 N, .int .i64 At] 91 (0, 0))) (by simp)) (by simp); have hlt2 := heap_lt hb2; obtain ⟨c0, c1, c2, c3, z0, z1, z2, z3⟩ := tok_block hb2)
      | (go_at_call 71; refine (HF _ (HG.out.keep (hk0.alloc _))).out.mono ?_; rintro e w1 ⟨rfl, hk1⟩))
    have hkw := ((hk0.alloc (.cells #[.int .i64 2, .string S, .int .i64 N, .int .i64 At] 91 (0, 0))).then hk1).then hk2
    have hb3 := set3_block hb2 (.int .i64 0)
    have hk3 := (hkw.setCell (.inr (Nat.le_refl w.heap.size)) (p := ⟨w.heap.size, 3, none⟩) (.int .i64 0)).alloc (.cells #[.int .i64 t.kind, .string ⟨t.s.toArray⟩, .int .i64 t.n, .int .i64 0] 91 (0, 0))
    have hb4 := alloc_old hb3 (.cells #[.int .i64 t.kind, .string ⟨t.s.toArray⟩, .int .i64 t.n, .int .i64 0] 91 (0, 0))
    have hb5 := heap_alloc_new (w2.setCell ⟨w.heap.size, 3, none⟩ (.int .i64 0)) (.cells #[.int .i64 t.kind, .string ⟨t.s.toArray⟩, .int .i64 t.n, .int .i64 0] 91 (0, 0))
    have hsz : (w2.setCell ⟨w.heap.size, 3, none⟩ (.int .i64 0)).heap.size = w2.heap.size := by simp [World.setCell]
    rw [hsz] at hb5
    generalize ((w2.setCell ⟨w.heap.size, 3, none⟩ (.int .i64 0)).alloc (.cells #[.int .i64 t.kind, .string ⟨t.s.toArray⟩, .int .i64 t.n, .int .i64 0] 91 (0, 0))) = w4 at *
    clear c0 c1 c2 c3 z0 z1 z2 z3 hb2 hb3 hsz
    obtain ⟨c0, c1, c2, c3, _, _, _, _⟩ := tok_block hb4
    obtain ⟨x0, x1, x2, x3, _, _, _, _⟩ := tok_block hb5
    have hE := fun w => run_eqIn_tok w t.kind t.n 0 2 N 0 ⟨t.s.toArray⟩ S
    have hEg := tok_guard
    cases hks : ((k : Int) == (X.size : Int))
    all_goals
      refine wp_region_chain (fun W' => (W'.cell? ⟨w.heap.size, 0, none⟩ = some (.int .i64 2) ∧ W'.cell? ⟨w.heap.size, 1, none⟩ = some (.string S) ∧ W'.cell? ⟨w.heap.size, 2, none⟩ = some (.int .i64 N) ∧ W'.cell? ⟨w.heap.size, 3, none⟩ = some (.int .i64 0)) ∧
        (W'.cell? ⟨w2.heap.size, 0, none⟩ = some (.int .i64 t.kind) ∧ W'.cell? ⟨w2.heap.size, 1, none⟩ = some (.string ⟨t.s.toArray⟩) ∧ W'.cell? ⟨w2.heap.size, 2, none⟩ = some (.int .i64 t.n) ∧ W'.cell? ⟨w2.heap.size, 3, none⟩ = some (.int .i64 0))) [] [(0, 0), (1, 0), (2, 0), (3, 0), (4, 0), (5, 0), (6, 0), (7, 0), (8, 0), (9, 1), (10, 1), (11, 0), (12, 0), (13, 0), (14, 0)] (by kernel_rfl) (by kernel_rfl) (fun _ d _ _ _ h => by cases d <;> exact h) ⟨⟨c0, c1, c2, c3⟩, ⟨x0, x1, x2, x3⟩⟩ ?_
      clear c0 c1 c2 c3 x0 x1 x2 x3
      repeat (first
        | (refine wpC_pure (v := ?_) rfl (by rfl) ?_ ?_
           rotate_left 1
           · (intro w; go_simp; try with_reducible rfl)
           try simp only [Act.put, List.setIfInBounds_toArray, List.set_cons_zero, List.set_cons_succ, List.getElem_toArray, List.getElem_cons_succ, List.getElem_cons_zero])
        | (refine wpC_held (v := ?_) rfl (by rfl) ?_ ?_
           rotate_left 1
           · (rintro w ⟨⟨c0, c1, c2, c3⟩, ⟨x0, x1, x2, x3⟩⟩; go_simp; try with_reducible rfl)
           try simp only [Act.put, List.setIfInBounds_toArray, List.set_cons_zero, List.set_cons_succ, List.getElem_toArray, List.getElem_cons_succ, List.getElem_cons_zero])
        | (refine wpC_pass rfl (by rfl) (by decide) ?_
           try simp only [Act.put, List.setIfInBounds_toArray, List.set_cons_zero, List.set_cons_succ, List.getElem_toArray, List.getElem_cons_succ, List.getElem_cons_zero]))
      refine wpC_nil ?_
      go_wp2_with fail
      go_returns
    · refine ⟨.of_some (k := k) (t := t) HX.out HL.out ?_ rfl, hk3.drew⟩
      refine ⟨fun h => (by cases h), ?_⟩
      rintro ⟨rfl, _⟩
      simp at hks
    · refine ⟨.of_some (k := k) (t := t) HX.out HL.out ?_ rfl, hk3.drew⟩
      exact eq_fields (eq_of_beq hks)

theorem written_any (K N At : Int) (S : ByteArray) (w : World) (hG : Glob w) (hN : -9223372036854775808 ≤ N ∧ N ≤ 9223372036854775807) (hS : S.size ≤ 140737488351232) :
    Calls Tryz.prog 44 #[.agg #[.int .i64 K, .string S, .int .i64 N, .int .i64 At]] w fun e w' => WrittenOut K S N e ∧ Keeps [] w w' := by
  by_cases h2 : K = 2
  · subst h2; exact written_num N At S w hG hN hS
  · by_cases h3 : K = 3
    · subst h3; exact written_text N At S w hG hN hS
    · exact written_plain K N At S w hG hN hS h2 h3

end Go.Proofs.YtefcmijobbgpbaaGreatDoor

namespace Go.Proofs.YtefcmijobbgpbaaGreatDoor
open Go.RowKit

structure TokR where
  kind : Int
  s : ByteArray
  n : Int
  at_ : Int

def TokR.ok (x : TokR) : Prop := -9223372036854775808 ≤ x.n ∧ x.n ≤ 9223372036854775807 ∧ x.s.size ≤ 140737488351232

def wtn (x : TokR) : Option (List UInt8) := writtenM x.kind x.s.data.toList x.n

def wrAll : List TokR → Option (List (List UInt8))
  | [] => some []
  | x :: r => match wtn x with
    | none => none
    | some a => match wrAll r with
      | none => none
      | some b => some (a :: b)

/-- Behind the end that may stand last. -/
def joinCore (l : List TokR) : Except Int (List UInt8) :=
  if 4096 < l.length then .error 2
  else match wrAll l with
    | none => .error 100
    | some ws => if 262144 < (joinW ws).length then .error 2 else .ok (joinW ws)

def joinM (l : List TokR) : Except Int (List UInt8) :=
  match l.getLast? with
  | none => joinCore l
  | some x => if x.kind = 0 then (if l.length - 1 ≤ 4096 ∧ (x.s.size ≠ 0 ∨ x.n ≠ 0) then .error 100 else joinCore l.dropLast) else joinCore l

def JoinOut (r : Except Int (List UInt8)) (e : Ending) : Prop :=
  match r with
  | .ok b => e = .returned (.tuple #[.string ⟨b.toArray⟩, .int .i64 0])
  | .error c => e = .returned (.tuple #[.string ⟨#[]⟩, .int .i64 c])

/-- A slice of tokens, as it reads. -/
def TokSl (w : World) (bk o : Nat) (l : List TokR) : Prop :=
  ∀ (j : Nat) (x : TokR), l[j]? = some x → w.cell? ⟨bk, o + j * 4, none⟩ = some (.int .i64 x.kind) ∧ w.cell? ⟨bk, o + j * 4 + 1, none⟩ = some (.string x.s) ∧ w.cell? ⟨bk, o + j * 4 + 2, none⟩ = some (.int .i64 x.n) ∧ w.cell? ⟨bk, o + j * 4 + 3, none⟩ = some (.int .i64 x.at_)

theorem TokSl.keep {w w' : World} {bk o : Nat} {l : List TokR} (h : TokSl w bk o l) (k : Keeps [] w w') : TokSl w' bk o l := fun j x hx => by
  obtain ⟨h0, h1, h2, h3⟩ := h j x hx
  exact ⟨k.cell h0 (by simp), k.cell h1 (by simp), k.cell h2 (by simp), k.cell h3 (by simp)⟩

theorem lexOne_short {l : List UInt8} {t : Tok} {k : Nat} (h : lexOne l = some (t, k)) : k ≤ 300 := by
  cases l with
  | nil => simp [lexOne] at h
  | cons c r =>
    simp only [lexOne] at h
    split at h
    · split at h
      · cases h; omega
      · cases h
    · split at h
      · rename_i hd
        split at h
        · rename_i hq
          cases h
          have hlen : ((c :: r).take (spanN isDigit (c :: r))).length = spanN isDigit (c :: r) := by
            rw [List.length_take]
            have := spanN_le isDigit (c :: r)
            omega
          have hpos := span_pos (r := r) hd
          have hdec := dec_of_num (spanN isDigit r) ((c :: r).take (spanN isDigit (c :: r))) (by rw [hlen, hpos]) (span_all _) (by
            rcases hq.2 with h1 | h1
            · left
              rw [hpos, List.take_succ_cons]
              simpa using h1
            · exact .inr (hlen.trans h1))
          have hi : (Lib.itoa ((numVal ((c :: r).take (spanN isDigit (c :: r))) : Nat) : Int)).length ≤ 21 := Lib.itoa_length_le _ (by omega) (by have := hq.1; omega)
          unfold Lib.itoa at hi
          rw [if_neg (by omega), Int.toNat_natCast, hdec, hlen] at hi
          omega
        · cases h
      · split at h
        · split at h
          · cases h; omega
          · cases h
        · split at h
          · split at h
            · cases h; omega
            · split at h
              · cases h
              · cases h; omega
          · cases h

theorem wtn_len {x : TokR} {a : List UInt8} (h : wtn x = some a) : 1 ≤ a.length ∧ a.length ≤ 300 := by
  obtain ⟨t, hl, _⟩ := written_some h
  exact ⟨(lexOne_len hl).1, lexOne_short hl⟩

theorem wrAll_snoc (l : List TokR) (x : TokR) : wrAll (l ++ [x]) = (match wrAll l with
    | none => none
    | some ws => match wtn x with
      | none => none
      | some a => some (ws ++ [a])) := by
  induction l with
  | nil => simp only [List.nil_append, wrAll]
  | cons y l ih =>
    simp only [List.cons_append, wrAll, ih]
    cases wtn y with
    | none => rfl
    | some b =>
      cases wrAll l with
      | none => rfl
      | some ws => cases wtn x <;> rfl

/-- Once one can't be written, all can't. -/
theorem wrAll_none {l : List TokR} {x : TokR} (hm : x ∈ l) (h : wtn x = none) : wrAll l = none := by
  induction l with
  | nil => cases hm
  | cons y l ih =>
    simp only [wrAll]
    rcases List.mem_cons.1 hm with rfl | hm
    · rw [h]
    · rw [ih hm]
      cases wtn y <;> rfl

/-- How long they are, with one more for each. -/
def longOf (ws : List (List UInt8)) : Nat := (ws.map fun a => a.length + 1).sum

theorem longOf_snoc (ws : List (List UInt8)) (a : List UInt8) : longOf (ws ++ [a]) = longOf ws + (a.length + 1) := by simp [longOf]

theorem joinW_length : ∀ ws : List (List UInt8), ws ≠ [] → (joinW ws).length + 1 = longOf ws
  | [], h => absurd rfl h
  | [a], _ => by simp [joinW, longOf]
  | a :: b :: r, _ => by
    have := joinW_length (b :: r) (by simp)
    simp only [joinW, List.length_append, List.length_cons]
    simp only [longOf, List.map_cons, List.sum_cons] at *
    omega

theorem wrAll_long {l : List TokR} {ws : List (List UInt8)} (h : wrAll l = some ws) : ws.length = l.length ∧ longOf ws ≤ 301 * l.length := by
  induction l generalizing ws with
  | nil => cases h; exact ⟨rfl, by simp [longOf]⟩
  | cons y l ih =>
    simp only [wrAll] at h
    cases hy : wtn y with
    | none => rw [hy] at h; cases h
    | some a =>
      rw [hy] at h
      cases hl : wrAll l with
      | none => rw [hl] at h; cases h
      | some b =>
        rw [hl] at h
        cases h
        obtain ⟨h1, h2⟩ := ih hl
        have := wtn_len hy
        refine ⟨by simp [h1], ?_⟩
        simp only [longOf, List.map_cons, List.sum_cons, List.length_cons] at *
        omega

/-- The join of Go's library is this one. -/
theorem join_same : ∀ ws : List (List UInt8), Lib.join ws [32] = joinW ws
  | [] => rfl
  | [a] => by simp [Lib.join, joinW]
  | a :: b :: r => by
    have := join_same (b :: r)
    simpa [Lib.join, joinW] using this

end Go.Proofs.YtefcmijobbgpbaaGreatDoor

namespace Go.Proofs.YtefcmijobbgpbaaGreatDoor
open Go.RowKit

theorem rtStr : RowTy Tryz.prog 28 9 1 16 := ⟨by kernel_rfl, by kernel_rfl, by decide⟩

theorem jm_end {l : List TokR} {n : Nat} {x : TokR} (hn : l.length = n + 1) (hx : l[n]? = some x) (hk : x.kind = 0) : joinM l = if n ≤ 4096 ∧ (x.s.size ≠ 0 ∨ x.n ≠ 0) then .error 100 else joinCore l.dropLast := by
  unfold joinM
  rw [List.getLast?_eq_getElem?, hn, Nat.add_sub_cancel, hx]
  simp only [hk, if_true]
theorem jm_not {l : List TokR} {n : Nat} {x : TokR} (hn : l.length = n + 1) (hx : l[n]? = some x) (hk : x.kind ≠ 0) : joinM l = joinCore l := by
  unfold joinM
  rw [List.getLast?_eq_getElem?, hn, Nat.add_sub_cancel, hx]
  simp only [hk, if_false]

theorem JoinOut.bad {r : Except Int (List UInt8)} {c : Int} {e : Ending} (h : r = .error c) (he : e = .returned (.tuple #[.string ⟨#[]⟩, .int .i64 c])) : JoinOut r e := by
  rw [h]; exact he
theorem JoinOut.good {r : Except Int (List UInt8)} {b : List UInt8} {e : Ending} (h : r = .ok b) (he : e = .returned (.tuple #[.string ⟨b.toArray⟩, .int .i64 0])) : JoinOut r e := by
  rw [h]; exact he

theorem core_long {l : List TokR} (h : 4096 < l.length) : joinCore l = .error 2 := by unfold joinCore; rw [if_pos h]
theorem core_bad {l : List TokR} (h : ¬ 4096 < l.length) {x : TokR} (hm : x ∈ l) (hx : wtn x = none) : joinCore l = .error 100 := by
  unfold joinCore; rw [if_neg h, wrAll_none hm hx]
theorem core_all {l : List TokR} (h : ¬ 4096 < l.length) {ws : List (List UInt8)} (hw : wrAll l = some ws) : joinCore l = if 262144 < (joinW ws).length then .error 2 else .ok (joinW ws) := by
  unfold joinCore; rw [if_neg h, hw]

theorem WrittenOut.split {x : TokR} {e : Ending} (h : WrittenOut x.kind x.s x.n e) : (wtn x = none ∧ ∃ r : ByteArray, e = .returned (.tuple #[.string r, .bool false])) ∨ ∃ a, wtn x = some a ∧ e = .returned (.tuple #[.string ⟨a.toArray⟩, .bool true]) := by
  obtain ⟨r, o, rfl, h2⟩ := h
  unfold wtn
  cases hw : writtenM x.kind x.s.data.toList x.n with
  | none => rw [hw] at h2; simp only at h2; subst h2; exact .inl ⟨rfl, r, rfl⟩
  | some a => rw [hw] at h2; simp only at h2; obtain ⟨rfl, rfl⟩ := h2; exact .inr ⟨a, rfl, rfl⟩

theorem sl_strs {w : World} {base : Nat} {v : Value} {n : Nat} {ws : List (List UInt8)} (h : w.ownsRow base 9 1 v n (ws.map fun a => .string ⟨a.toArray⟩)) : ws.length = n := by
  have := h.1
  simpa using this

/-- strings.Join of words that are owned. -/
theorem joinLib_any (w : World) (base : Nat) (ao : Option Addr) (cp n : Nat) (ws : List (List UInt8)) (h : w.ownsRow base 9 1 (.slice ao n cp) n (ws.map fun a => .string ⟨a.toArray⟩)) (hn : n ≤ 4096) (hl : (joinW ws).length ≤ 140737488355328) :
    Calls Tryz.prog 45 #[.slice ao n cp, .string ⟨#[32]⟩] w fun e w' => e = .returned (.string ⟨(joinW ws).toArray⟩) ∧ Keeps [] w w' := by
  have hlen := sl_strs h
  rcases h.2 with ⟨he, h0⟩ | ⟨g, cap, cur, he, hb, hg, hnc, hm, hs, ht⟩
  · subst h0
    cases he
    have : ws = [] := List.eq_nil_of_length_eq_zero hlen
    subst this
    exact (Tryz.strings_Join_none none 0 ⟨#[32]⟩ w).mono fun e w' ⟨h1, h2⟩ => ⟨h1, h2 ▸ Keeps.refl [] _⟩
  · cases he
    have hmap : (ws.map fun a => (⟨a.toArray⟩ : ByteArray)).map (·.data.toList) = ws := by
      rw [List.map_map]
      exact List.map_id'' (fun a => by simp) ws
    have hj : Lib.join ((ws.map fun a => (⟨a.toArray⟩ : ByteArray)).map (·.data.toList)) (⟨#[32]⟩ : ByteArray).data.toList = joinW ws := by
      rw [hmap]
      exact join_same ws
    have hc := Tryz.strings_Join g 0 cp (ws.map fun a => (⟨a.toArray⟩ : ByteArray)) ⟨#[32]⟩ w (by
      intro j x hx
      have := h.cells rfl j (.string x) (by
        rw [List.getElem?_map] at hx ⊢
        cases hw : ws[j]? with
        | none => rw [hw] at hx; cases hx
        | some a => rw [hw] at hx; cases hx; rfl)
      simpa [addr_add] using this) (heap_lt hg) (by simp; omega) (by simp; omega) (by rw [hj]; exact hl)
    rw [hj, List.length_map, hlen] at hc
    exact hc.mono fun e w' ⟨h1, h2⟩ => ⟨h1, Keeps.of_below h2⟩

set_option maxHeartbeats 8000000 in
set_option maxRecDepth 100000 in
theorem join_some (l : List TokR) (bk o cap : Nat) (w : World) (hG : Glob w) (hok : ∀ x ∈ l, x.ok) (hsl : TokSl w bk o l) (hl : l.length ≤ cap) (hcap : cap ≤ 9223372036854775807) (hne : l ≠ []) :
    Calls Tryz.prog 27 #[.slice (some ⟨bk, o, none⟩) l.length cap] w fun e w' => JoinOut (joinM l) e ∧ Keeps [] w w' := by
  have hk0 := Keeps.refl [] w
  have HG := Lib.hid hG
  obtain ⟨n, hn⟩ : ∃ n, l.length = n + 1 := ⟨l.length - 1, by have := List.length_pos_iff.2 hne; omega⟩
  obtain ⟨x, hx⟩ : ∃ x, l[n]? = some x := ⟨l[n], List.getElem?_eq_getElem (by omega)⟩
  obtain ⟨c0, c1, c2, c3⟩ := hsl n x hx
  have q1 : IntKind.i64.wrap (((n + 1 : Nat) : Int) - 1) = (n : Int) := (IntWalk.i64_in _ (by omega)).trans (by omega)
  have HS := Lib.hid hsl
  have HE := Lib.hid (fun h => jm_end hn hx h)
  have HJ := Lib.hid (fun h => jm_not hn hx h)
  have HOk := Lib.hid hok
  have HX := Lib.hid hx
  clear hG hsl hok hx hne
  rw [hn]
  rw [hn] at hl
  have HN := Lib.hid hn
  clear hn
  go_enter Tryz.func27, Tryz.ntmps27
  go_wp2_with fail
  · go_returns
    refine ⟨.bad ((HE.out (eq_of_beq ‹_›)).trans (if_pos ⟨by omega, .inr (by rename_i h; rw [bne_iff_ne] at h; exact h)⟩)) rfl, hk0⟩
  · have hkd := eq_of_beq ‹(x.kind == 0) = true›
    have hsz0 : x.s.size = 0 := by
      have h : x.s.toList = [] := by assumption
      rw [ByteArray.toList_eq] at h
      have h2 := congrArg List.length h
      exact h2
    have hn0 : x.n = 0 := by
      have h : (x.n != 0) = false := by assumption
      simpa using h
    have HJM : Hid (joinM l = joinCore l.dropLast) := Lib.hid ((HE.out hkd).trans (if_neg (by rw [hsz0, hn0]; simp)))
    have HSL : Hid (TokSl w bk o l.dropLast) := Lib.hid (fun j y hy => HS.out j y (by
      have hj : j < l.dropLast.length := by
        rcases Nat.lt_or_ge j l.dropLast.length with h | h
        · exact h
        · rw [List.getElem?_eq_none h] at hy; cases hy
      rw [List.getElem?_dropLast] at hy
      split at hy
      · exact hy
      · cases hy))
    have HOL : Hid (∀ y ∈ l.dropLast, y.ok) := Lib.hid (fun y hy => HOk.out y (List.dropLast_subset l hy))
    have HL : Hid (l.dropLast.length = n) := Lib.hid (by rw [List.length_dropLast, HN.out]; rfl)
    have hq : (x.n != 0) = false := by assumption
    rw [hq]
    clear hkd hsz0 hn0
    clear c0 c1 c2 c3 HE HJ HX HN HS HOk
    go_loopw [5, 6, 50] (fun ws_ lg i wr_ => ∃ (k : Nat) (ws : List (List UInt8)) (ao : Option Addr) (cp : Nat), k ≤ n ∧ i = .int .i64 k ∧ ws_ = .slice ao k cp ∧ lg = .int .i64 (longOf ws : Nat) ∧ longOf ws ≤ 301 * k ∧ Hid (wrAll (l.dropLast.take k) = some ws) ∧ Hid (wr_.ownsRow w.heap.size 9 1 (.slice ao k cp) k (ws.map fun a => .string ⟨a.toArray⟩)) ∧ Keeps [] w wr_) (fun _ _ i _ => n - (intOf i).toNat)
    case atStart => exact ⟨0, [], none, 0, Nat.zero_le _, rfl, rfl, rfl, by simp [longOf], Lib.hid rfl, Lib.hid ⟨rfl, .inl ⟨rfl, rfl⟩⟩, hk0⟩
    case round =>
      obtain ⟨k, ws, ao, cp, hkm, rfl, rfl, rfl, hlo, hW, hown, hk⟩ := hrel
      by_cases hlt : k < n
      · have d1 : decide ((k : Int) < (n : Int)) = true := by simp; omega
        obtain ⟨y, hy⟩ : ∃ y, l.dropLast[k]? = some y := ⟨l.dropLast[k]'(by rw [HL.out]; omega), List.getElem?_eq_getElem _⟩
        obtain ⟨y0, y1, y2, y3⟩ := (HSL.out.keep hk) k y hy
        have hyo := HOL.out y (List.mem_of_getElem? hy)
        have HWr := fun w h => Lib.hid (written_any y.kind y.n y.at_ y.s w h ⟨hyo.1, hyo.2.1⟩ hyo.2.2)
        have hbase : w.heap.size ≤ wr.heap.size := hk.size
        cases hwy : wtn y with
        | none =>
          have HB := Lib.hid (core_bad (by rw [HL.out]; omega) (List.mem_of_getElem? hy) hwy)
          have HF : ∀ w h, Hid (Calls Tryz.prog 44 #[.agg #[.int .i64 y.kind, .string y.s, .int .i64 y.n, .int .i64 y.at_]] w fun e w' => (∃ r : ByteArray, e = .returned (.tuple #[.string r, .bool false])) ∧ Keeps [] w w') := fun w h => Lib.hid ((HWr w h).out.mono fun e w' ⟨h1, h2⟩ => ⟨(by
            rcases h1.split with ⟨_, h⟩ | ⟨a, ha, _⟩
            · exact h
            · rw [hwy] at ha; cases ha), h2⟩)
          clear hy hyo HWr hwy
          go_wp2_with (go_at_call 44; refine (HF _ (HG.out.keep (hk.alloc _))).out.mono ?_; rintro e w2 ⟨⟨r, rfl⟩, hk2⟩)
          go_returns
          exact ⟨.bad (HJM.out.trans HB.out) rfl, (hk.alloc _).then hk2⟩
        | some a =>
          have HF : ∀ w h, Hid (Calls Tryz.prog 44 #[.agg #[.int .i64 y.kind, .string y.s, .int .i64 y.n, .int .i64 y.at_]] w fun e w' => e = .returned (.tuple #[.string ⟨a.toArray⟩, .bool true]) ∧ Keeps [] w w') := fun w h => Lib.hid ((HWr w h).out.mono fun e w' ⟨h1, h2⟩ => ⟨(by
            rcases h1.split with ⟨h, _⟩ | ⟨a', ha, h⟩
            · rw [hwy] at h; cases h
            · rw [hwy] at ha; cases ha; exact h), h2⟩)
          have hal := wtn_len hwy
          have HT : Hid (wrAll (l.dropLast.take (k + 1)) = some (ws ++ [a])) := Lib.hid (by
            have hlk : k < l.dropLast.length := by rw [HL.out]; omega
            have hyk : l.dropLast[k] = y := by rw [List.getElem?_eq_getElem hlk] at hy; exact Option.some.inj hy
            rw [List.take_succ_eq_append_getElem hlk, wrAll_snoc, hW.out, hyk, hwy])
          have hls := longOf_snoc ws a
          have hsza : ((⟨a.toArray⟩ : ByteArray).size : Int) = a.length := by simp [ByteArray.size]
          obtain ⟨r, hr⟩ : ∃ r : ByteArray, r = ⟨a.toArray⟩ := ⟨_, rfl⟩
          rw [← hr] at HF hsza
          have HRr := Lib.hid hr
          have HLS := Lib.hid hls
          have hwl := sl_strs hown.out
          have HWL := Lib.hid hwl
          obtain ⟨lg, hlg⟩ : ∃ lg : Int, lg = (longOf ws : Nat) := ⟨_, rfl⟩
          rw [← hlg]
          have hlg0 : 0 ≤ lg := by omega
          have hlg1 : lg ≤ 301 * (k : Int) := by omega
          have HLG := Lib.hid hlg
          have hk4 : k ≤ 4096 := by omega
          clear hy hyo HWr hwy hr hls hwl hlg
          go_wp2_with (first
            | (go_at_call 44; refine (HF _ (HG.out.keep (hk.alloc _))).out.mono ?_; rintro e w2 ⟨rfl, hk2⟩; have hkb := hk2.size)
            | (at_builtin; refine list_append_any rtStr (by rfl) _ _ (by rfl) w.heap.size _ k (ws.map fun a => .string ⟨a.toArray⟩) (by rfl) ((own_kept (hown.out.alloc _) hk2 (by simp)).alloc _) _ 1 [.string r] (by rfl) (SlC.of_block (cs := #[.string r]) (t := 9) (fr := (0, 0)) (heap_alloc_new _ _) (by rfl)) (by simp [Value.oneCell']) (by omega) (by unfold maxLen; omega) (by simp at hkb ⊢; omega) ?_; intro ao3 cp3 w3 hown3 hgrow3 hat3 hnil3; have HO3 := Lib.hid hown3; clear hown3; have hk3 : Keeps [] w w3 := ((((hk.alloc _).then hk2).alloc _).grown hgrow3 (fun k h => .inr (own_ge hown.out h)))))
          refine ⟨⟨k + 1, ws ++ [a], ao3, cp3, by omega, by simp, rfl, ?_, ?_, HT, Lib.hid ?_, hk3⟩, by simp only [intOf]; omega⟩
          · have h1 := HLS.out
            have h2 := HLG.out
            congr 1
            omega
          · have h1 := HLS.out
            omega
          · rw [List.map_append, List.map_singleton, ← HRr.out]
            exact HO3.out
      · have hke : k = n := by omega
        have d1 : decide ((k : Int) < (n : Int)) = false := by simp; omega
        have hall : l.dropLast.take k = l.dropLast := List.take_of_length_le (by rw [HL.out, hke]; exact Nat.le_refl _)
        have hWW := hW.out
        rw [hall] at hWW
        have HC := Lib.hid (core_all (by rw [HL.out]; omega) hWW)
        have hwl := sl_strs hown.out
        have HWL := Lib.hid hwl
        have hjl : ((longOf ws : Nat) : Int) - 1 ≤ 262144 ↔ (joinW ws).length ≤ 262144 := by
          cases ws with
          | nil => simp [longOf, joinW]
          | cons b r =>
            have := joinW_length (b :: r) (by simp)
            omega
        have hjb : (joinW ws).length ≤ 140737488355328 := by
          cases ws with
          | nil => simp [joinW]
          | cons b r =>
            have := joinW_length (b :: r) (by simp)
            omega
        have HJn := Lib.hid (joinLib_any wr _ ao cp k ws hown.out (by omega) hjb)
        have HJl := Lib.hid hjl
        obtain ⟨lg, hlg⟩ : ∃ lg : Int, lg = (longOf ws : Nat) := ⟨_, rfl⟩
        rw [← hlg]
        have hlg0 : 0 ≤ lg := by omega
        have hlg1 : lg ≤ 301 * (k : Int) := by omega
        have HLG := Lib.hid hlg
        have hk4 : k ≤ 4096 := by omega
        clear hall hWW hwl hjl hjb hlg hke
        go_wp2_with (go_at_call 45; refine HJn.out.mono ?_; rintro e w2 ⟨rfl, hk2⟩)
        · go_returns
          have h1 := HJl.out
          have h2 := HLG.out
          exact ⟨.bad (HJM.out.trans (HC.out.trans (if_pos (by omega)))) rfl, hk⟩
        · go_returns
          have h1 := HJl.out
          have h2 := HLG.out
          exact ⟨.good (HJM.out.trans (HC.out.trans (if_neg (by omega)))) rfl, hk.then hk2⟩
  · go_returns
    refine ⟨.bad ((HE.out (eq_of_beq ‹_›)).trans (if_pos ⟨by omega, .inl (fun h0 => (by assumption : ¬ x.s.toList = []) (by rw [ByteArray.toList_eq]; exact List.eq_nil_of_length_eq_zero h0))⟩)) rfl, hk0⟩
  · go_returns
    refine ⟨.bad ((HE.out (eq_of_beq ‹_›)).trans ((if_neg (by omega)).trans (core_long (by rw [List.length_dropLast, HN.out]; omega)))) rfl, hk0⟩
  · go_returns
    refine ⟨.bad ((HJ.out (by simpa using ‹(x.kind == 0) = false›)).trans (core_long (by rw [HN.out]; omega))) rfl, hk0⟩
  · have hkd : x.kind ≠ 0 := by simpa using ‹(x.kind == 0) = false›
    have HJM : Hid (joinM l = joinCore l) := Lib.hid (HJ.out hkd)
    have HSL := HS
    have HOL := HOk
    have HL := HN
    have hq : (x.kind == 0) = false := by assumption
    rw [hq]
    clear hkd
    clear c0 c1 c2 c3 HE HJ HX HN HS HOk
    go_loopw [5, 6, 50] (fun ws_ lg i wr_ => ∃ (k : Nat) (ws : List (List UInt8)) (ao : Option Addr) (cp : Nat), k ≤ (n + 1) ∧ i = .int .i64 k ∧ ws_ = .slice ao k cp ∧ lg = .int .i64 (longOf ws : Nat) ∧ longOf ws ≤ 301 * k ∧ Hid (wrAll (l.take k) = some ws) ∧ Hid (wr_.ownsRow w.heap.size 9 1 (.slice ao k cp) k (ws.map fun a => .string ⟨a.toArray⟩)) ∧ Keeps [] w wr_) (fun _ _ i _ => (n + 1) - (intOf i).toNat)
    case atStart => exact ⟨0, [], none, 0, Nat.zero_le _, rfl, rfl, rfl, by simp [longOf], Lib.hid rfl, Lib.hid ⟨rfl, .inl ⟨rfl, rfl⟩⟩, hk0⟩
    case round =>
      obtain ⟨k, ws, ao, cp, hkm, rfl, rfl, rfl, hlo, hW, hown, hk⟩ := hrel
      by_cases hlt : k < (n + 1)
      · have d1 : decide ((k : Int) < (n : Int) + 1) = true := by simp; omega
        obtain ⟨y, hy⟩ : ∃ y, l[k]? = some y := ⟨l[k]'(by rw [HL.out]; omega), List.getElem?_eq_getElem _⟩
        obtain ⟨y0, y1, y2, y3⟩ := (HSL.out.keep hk) k y hy
        have hyo := HOL.out y (List.mem_of_getElem? hy)
        have HWr := fun w h => Lib.hid (written_any y.kind y.n y.at_ y.s w h ⟨hyo.1, hyo.2.1⟩ hyo.2.2)
        have hbase : w.heap.size ≤ wr.heap.size := hk.size
        cases hwy : wtn y with
        | none =>
          have HB := Lib.hid (core_bad (by rw [HL.out]; omega) (List.mem_of_getElem? hy) hwy)
          have HF : ∀ w h, Hid (Calls Tryz.prog 44 #[.agg #[.int .i64 y.kind, .string y.s, .int .i64 y.n, .int .i64 y.at_]] w fun e w' => (∃ r : ByteArray, e = .returned (.tuple #[.string r, .bool false])) ∧ Keeps [] w w') := fun w h => Lib.hid ((HWr w h).out.mono fun e w' ⟨h1, h2⟩ => ⟨(by
            rcases h1.split with ⟨_, h⟩ | ⟨a, ha, _⟩
            · exact h
            · rw [hwy] at ha; cases ha), h2⟩)
          clear hy hyo HWr hwy
          go_wp2_with (go_at_call 44; refine (HF _ (HG.out.keep (hk.alloc _))).out.mono ?_; rintro e w2 ⟨⟨r, rfl⟩, hk2⟩)
          go_returns
          exact ⟨.bad (HJM.out.trans HB.out) rfl, (hk.alloc _).then hk2⟩
        | some a =>
          have HF : ∀ w h, Hid (Calls Tryz.prog 44 #[.agg #[.int .i64 y.kind, .string y.s, .int .i64 y.n, .int .i64 y.at_]] w fun e w' => e = .returned (.tuple #[.string ⟨a.toArray⟩, .bool true]) ∧ Keeps [] w w') := fun w h => Lib.hid ((HWr w h).out.mono fun e w' ⟨h1, h2⟩ => ⟨(by
            rcases h1.split with ⟨h, _⟩ | ⟨a', ha, h⟩
            · rw [hwy] at h; cases h
            · rw [hwy] at ha; cases ha; exact h), h2⟩)
          have hal := wtn_len hwy
          have HT : Hid (wrAll (l.take (k + 1)) = some (ws ++ [a])) := Lib.hid (by
            have hlk : k < l.length := by rw [HL.out]; omega
            have hyk : l[k] = y := by rw [List.getElem?_eq_getElem hlk] at hy; exact Option.some.inj hy
            rw [List.take_succ_eq_append_getElem hlk, wrAll_snoc, hW.out, hyk, hwy])
          have hls := longOf_snoc ws a
          have hsza : ((⟨a.toArray⟩ : ByteArray).size : Int) = a.length := by simp [ByteArray.size]
          obtain ⟨r, hr⟩ : ∃ r : ByteArray, r = ⟨a.toArray⟩ := ⟨_, rfl⟩
          rw [← hr] at HF hsza
          have HRr := Lib.hid hr
          have HLS := Lib.hid hls
          have hwl := sl_strs hown.out
          have HWL := Lib.hid hwl
          obtain ⟨lg, hlg⟩ : ∃ lg : Int, lg = (longOf ws : Nat) := ⟨_, rfl⟩
          rw [← hlg]
          have hlg0 : 0 ≤ lg := by omega
          have hlg1 : lg ≤ 301 * (k : Int) := by omega
          have HLG := Lib.hid hlg
          have hk4 : k ≤ 4096 := by omega
          clear hy hyo HWr hwy hr hls hwl hlg
          go_wp2_with (first
            | (go_at_call 44; refine (HF _ (HG.out.keep (hk.alloc _))).out.mono ?_; rintro e w2 ⟨rfl, hk2⟩; have hkb := hk2.size)
            | (at_builtin; refine list_append_any rtStr (by rfl) _ _ (by rfl) w.heap.size _ k (ws.map fun a => .string ⟨a.toArray⟩) (by rfl) ((own_kept (hown.out.alloc _) hk2 (by simp)).alloc _) _ 1 [.string r] (by rfl) (SlC.of_block (cs := #[.string r]) (t := 9) (fr := (0, 0)) (heap_alloc_new _ _) (by rfl)) (by simp [Value.oneCell']) (by omega) (by unfold maxLen; omega) (by simp at hkb ⊢; omega) ?_; intro ao3 cp3 w3 hown3 hgrow3 hat3 hnil3; have HO3 := Lib.hid hown3; clear hown3; have hk3 : Keeps [] w w3 := ((((hk.alloc _).then hk2).alloc _).grown hgrow3 (fun k h => .inr (own_ge hown.out h)))))
          refine ⟨⟨k + 1, ws ++ [a], ao3, cp3, by omega, by simp, rfl, ?_, ?_, HT, Lib.hid ?_, hk3⟩, by simp only [intOf]; omega⟩
          · have h1 := HLS.out
            have h2 := HLG.out
            congr 1
            omega
          · have h1 := HLS.out
            omega
          · rw [List.map_append, List.map_singleton, ← HRr.out]
            exact HO3.out
      · have hke : k = (n + 1) := by omega
        have d1 : decide ((k : Int) < (n : Int) + 1) = false := by simp; omega
        have hall : l.take k = l := List.take_of_length_le (by rw [HL.out, hke]; exact Nat.le_refl _)
        have hWW := hW.out
        rw [hall] at hWW
        have HC := Lib.hid (core_all (by rw [HL.out]; omega) hWW)
        have hwl := sl_strs hown.out
        have HWL := Lib.hid hwl
        have hjl : ((longOf ws : Nat) : Int) - 1 ≤ 262144 ↔ (joinW ws).length ≤ 262144 := by
          cases ws with
          | nil => simp [longOf, joinW]
          | cons b r =>
            have := joinW_length (b :: r) (by simp)
            omega
        have hjb : (joinW ws).length ≤ 140737488355328 := by
          cases ws with
          | nil => simp [joinW]
          | cons b r =>
            have := joinW_length (b :: r) (by simp)
            omega
        have HJn := Lib.hid (joinLib_any wr _ ao cp k ws hown.out (by omega) hjb)
        have HJl := Lib.hid hjl
        obtain ⟨lg, hlg⟩ : ∃ lg : Int, lg = (longOf ws : Nat) := ⟨_, rfl⟩
        rw [← hlg]
        have hlg0 : 0 ≤ lg := by omega
        have hlg1 : lg ≤ 301 * (k : Int) := by omega
        have HLG := Lib.hid hlg
        have hk4 : k ≤ 4096 := by omega
        clear hall hWW hwl hjl hjb hlg hke
        go_wp2_with (go_at_call 45; refine HJn.out.mono ?_; rintro e w2 ⟨rfl, hk2⟩)
        · go_returns
          have h1 := HJl.out
          have h2 := HLG.out
          exact ⟨.bad (HJM.out.trans (HC.out.trans (if_pos (by omega)))) rfl, hk⟩
        · go_returns
          have h1 := HJl.out
          have h2 := HLG.out
          exact ⟨.good (HJM.out.trans (HC.out.trans (if_neg (by omega)))) rfl, hk.then hk2⟩

end Go.Proofs.YtefcmijobbgpbaaGreatDoor
