/- Contract of written. Conditions: those of each theorem. -/
import Derived.Test.YtfoeadiejcheiaaDoorTokX
import Derived.Lib.ItoaLen
namespace Go.Proofs.YtfoeadiejcheiaaDoor
open Go.RowKit

/-- What written answers. -/
def WrittenOut (K : Int) (S : ByteArray) (N : Int) (e : Ending) : Prop :=
  ∃ (r : ByteArray) (o : Bool), e = .returned (.tuple #[.string r, .bool o]) ∧ (match writtenM K S.data.toList N with | some x => o = true ∧ r = ⟨x.toArray⟩ | none => o = false)

/-- What is tried as a token's text. -/
def cand (K : Int) (S : List UInt8) (N : Int) : List UInt8 := if K = 2 then Lib.itoa N else if K = 3 then 39 :: (S ++ [39]) else S

theorem WrittenOut.of_none {K N : Int} {S X r : ByteArray} {e : Ending} (hx : cand K S.data.toList N = X.data.toList) (hl : lexOne X.data.toList = none) (he : e = .returned (.tuple #[.string r, .bool false])) : WrittenOut K S N e := by
  refine ⟨r, false, he, ?_⟩
  have h : writtenM K S.data.toList N = none := by
    unfold cand at hx
    unfold writtenM
    simp only [hx, hl]
  rw [h]
theorem WrittenOut.of_some {K N : Int} {S X : ByteArray} {e : Ending} {t : Tok} {k : Nat} {o : Bool} (hx : cand K S.data.toList N = X.data.toList) (hl : lexOne X.data.toList = some (t, k))
    (ho : o = true ↔ k = X.size ∧ (t.kind : Int) = K ∧ (⟨t.s.toArray⟩ : ByteArray) = S ∧ (t.n : Int) = N) (he : e = .returned (.tuple #[.string X, .bool o])) : WrittenOut K S N e := by
  refine ⟨X, o, he, ?_⟩
  have hs : (⟨t.s.toArray⟩ : ByteArray) = S ↔ t.s = S.data.toList := by
    constructor
    · rintro rfl
      simp
    · intro h
      rw [h]
  have hl2 : X.data.toList.length = X.size := rfl
  have h : writtenM K S.data.toList N = if k = X.size ∧ (t.kind : Int) = K ∧ t.s = S.data.toList ∧ (t.n : Int) = N then some X.data.toList else none := by
    unfold cand at hx
    unfold writtenM
    simp only [hx, hl, hl2]
  rw [h]
  rw [hs] at ho
  split
  · rename_i x hq
    split at hq
    · rename_i hc
      cases hq
      exact ⟨ho.2 hc, by simp⟩
    · cases hq
  · rename_i hq
    split at hq
    · cases hq
    · rename_i hc
      rw [← Bool.not_eq_true]
      exact fun h => hc (ho.1 h)

theorem set3_block {w : World} {B : Nat} {a b c d : Value} {t : TypeId} (h : w.heap[B]? = some (.cells #[a, b, c, d] t)) (p : Value) :
    (w.setCell ⟨B, 3, none⟩ p).heap[B]? = some (.cells #[a, b, c, p] t (0, 0)) := by
  rw [heap_set_self h]
  rfl

theorem eq_fields {t : Tok} {k sz : Nat} {K N : Int} {S : ByteArray} (hk : (k : Int) = (sz : Int)) :
    (((t.kind : Int) == K) && ((t.s == S.toList) && ((t.n : Int) == N))) = true ↔ k = sz ∧ (t.kind : Int) = K ∧ (⟨t.s.toArray⟩ : ByteArray) = S ∧ (t.n : Int) = N := by
  have hs : (⟨t.s.toArray⟩ : ByteArray) = S ↔ t.s = S.toList := by
    rw [ByteArray.toList_eq]
    constructor
    · rintro rfl
      simp
    · intro h
      rw [h]
  rw [hs]
  simp only [Bool.and_eq_true, beq_iff_eq]
  constructor
  · rintro ⟨h1, h2, h3⟩
    exact ⟨by omega, h1, h2, h3⟩
  · rintro ⟨_, h1, h2, h3⟩
    exact ⟨h1, h2, h3⟩

theorem Keeps.grow {S : List Nat} {a w : World} (h : Keeps S a w) (os : Array Obj) : Keeps S a (Sort.grow w os) :=
  h.then ⟨rfl, rfl, rfl, by simp [Sort.grow], fun k hk _ => by simp only [Sort.grow]; rw [Array.getElem?_append_left hk]⟩

theorem pow_tab {w : World} (h : Glob w) : Lib.TabIs Tryd.prog w "internal/strconv.uint64pow10" .u64 Lib.pow10Tab := by
  unfold Lib.TabIs World.var?
  have hg : Tryd.prog.globalNamed "internal/strconv.uint64pow10" = some 1 := by kernel_rfl
  rw [hg]
  obtain ⟨t, fr, hp⟩ := h.pow
  simp only [Option.bind_some, hp]

theorem format_any (n : Int) (h0 : -9223372036854775808 ≤ n) (h1 : n ≤ 9223372036854775807) (w : World) (hG : Glob w) :
    Calls Tryd.prog 17 #[.int .i64 n, .int .i64 10] w fun e w' => e = .returned (.string ⟨(Lib.itoa n).toArray⟩) ∧ Keeps [] w w' :=
  (Tryd.strconv_FormatInt_10 n h0 h1 w (pow_tab hG)).mono fun _ _ ⟨h2, k, os, h3⟩ => ⟨h2, h3 ▸ ((Keeps.refl [] w).drewN k).grow os⟩

theorem decDigits_pos (n : Nat) : 0 < (Lib.decDigits n).length := by
  unfold Lib.decDigits
  split <;> simp
theorem itoa_pos (n : Int) : 0 < (Lib.itoa n).length := by
  unfold Lib.itoa
  split
  · simp
  · exact decDigits_pos _
theorem itoa_le {n : Int} (h0 : -9223372036854775808 ≤ n) (h1 : n ≤ 9223372036854775807) : (Lib.itoa n).length ≤ 281474976710656 := by
  have := Lib.itoa_length_le n h0 h1
  omega

set_option maxHeartbeats 4000000 in
set_option maxRecDepth 100000 in
theorem written_plain (K : Int) (N At : Int) (S : ByteArray) (w : World) (hG : Glob w) (_hN : -9223372036854775808 ≤ N ∧ N ≤ 9223372036854775807) (hS : S.size ≤ 140737488351232) (h2 : K ≠ 2) (h3 : K ≠ 3) :
    Calls Tryd.prog 12 #[.agg #[.int .i64 K, .string S, .int .i64 N, .int .i64 At]] w fun e w' => WrittenOut K S N e ∧ Keeps [] w w' := by
  have hk0 := Keeps.refl [] w
  have HG := Lib.hid hG
  clear hG
  go_enter Tryd.func12, Tryd.ntmps12
  have hx : cand K S.data.toList N = S.data.toList := by unfold cand; rw [if_neg h2, if_neg h3]
  have hd2 : (K == 2) = false := by simp [h2]
  have hd3 : (K == 3) = false := by simp [h3]
  clear h2 h3
  cases hl : lexOne S.data.toList with
  | none =>
    by_cases hne : 0 < S.size
    · have hemp := not_empty hne
      have HOne := fun w h => Lib.hid ((one_any S 0 w h hne (by omega)).mono fun e w' ⟨h1, h2⟩ => (⟨h1.is_none (by simpa using hl), h2⟩ : _ ∧ Keeps [] w w'))
      have HX := Lib.hid hx
      have HL := Lib.hid hl
      clear hx hl hne
      go_wp2_with (first
        | (go_at_call 16; refine (HOne _ (HG.out.keep (hk0.alloc _))).out.mono ?_; rintro e w2 ⟨⟨a, b, n, d, E, rfl⟩, hk2⟩; have hb2 := hk2.heap (heap_alloc_new w (.cells #[.int .i64 K, .string S, .int .i64 N, .int .i64 At] 34 (0, 0))) (by simp); have hlt2 := heap_lt hb2; obtain ⟨c0, c1, c2, c3, z0, z1, z2, z3⟩ := tok_block hb2))
      have hkw := (hk0.alloc (.cells #[.int .i64 K, .string S, .int .i64 N, .int .i64 At] 34 (0, 0))).then hk2
      have hb3 := set3_block hb2 (.int .i64 0)
      have hk3 := (hkw.setCell (.inr (Nat.le_refl w.heap.size)) (p := ⟨w.heap.size, 3, none⟩) (.int .i64 0)).alloc (.cells #[.int .i64 a, .string b, .int .i64 n, .int .i64 d] 34 (0, 0))
      have hb4 := alloc_old hb3 (.cells #[.int .i64 a, .string b, .int .i64 n, .int .i64 d] 34 (0, 0))
      have hb5 := heap_alloc_new (w2.setCell ⟨w.heap.size, 3, none⟩ (.int .i64 0)) (.cells #[.int .i64 a, .string b, .int .i64 n, .int .i64 d] 34 (0, 0))
      have hsz : (w2.setCell ⟨w.heap.size, 3, none⟩ (.int .i64 0)).heap.size = w2.heap.size := by simp [World.setCell]
      rw [hsz] at hb5
      generalize ((w2.setCell ⟨w.heap.size, 3, none⟩ (.int .i64 0)).alloc (.cells #[.int .i64 a, .string b, .int .i64 n, .int .i64 d] 34 (0, 0))) = w4 at *
      clear c0 c1 c2 c3 z0 z1 z2 z3 hb2 hb3 hsz
      obtain ⟨c0, c1, c2, c3, _, _, _, _⟩ := tok_block hb4
      obtain ⟨x0, x1, x2, x3, _, _, _, _⟩ := tok_block hb5
      refine wp_region_chain (fun W' => (W'.cell? ⟨w.heap.size, 0, none⟩ = some (.int .i64 K) ∧ W'.cell? ⟨w.heap.size, 1, none⟩ = some (.string S) ∧ W'.cell? ⟨w.heap.size, 2, none⟩ = some (.int .i64 N) ∧ W'.cell? ⟨w.heap.size, 3, none⟩ = some (.int .i64 0)) ∧
        (W'.cell? ⟨w2.heap.size, 0, none⟩ = some (.int .i64 a) ∧ W'.cell? ⟨w2.heap.size, 1, none⟩ = some (.string b) ∧ W'.cell? ⟨w2.heap.size, 2, none⟩ = some (.int .i64 n) ∧ W'.cell? ⟨w2.heap.size, 3, none⟩ = some (.int .i64 d))) [] [(0, 0), (1, 0), (2, 0), (3, 0), (4, 0), (5, 0), (6, 0), (7, 0), (8, 0), (9, 1), (10, 1), (11, 0), (12, 0), (13, 0), (14, 0)] (by kernel_rfl) (by kernel_rfl) (fun _ d _ _ _ h => by cases d <;> exact h) ⟨⟨c0, c1, c2, c3⟩, ⟨x0, x1, x2, x3⟩⟩ ?_
      clear c0 c1 c2 c3 x0 x1 x2 x3
      repeat (first
        | (refine wpC_pure (v := ?_) rfl (by rfl) ?_ ?_
           rotate_left 1
           · (intro w; go_simp; try with_reducible rfl)
           try simp only [Act.put, List.setIfInBounds_toArray, List.set_cons_zero, List.set_cons_succ, List.getElem_toArray, List.getElem_cons_succ, List.getElem_cons_zero])
        | (refine wpC_held (v := ?_) rfl (by rfl) ?_ ?_
           rotate_left 1
           · (rintro w ⟨⟨c0, c1, c2, c3⟩, ⟨x0, x1, x2, x3⟩⟩; go_simp; try with_reducible rfl)
           try simp only [Act.put, List.setIfInBounds_toArray, List.set_cons_zero, List.set_cons_succ, List.getElem_toArray, List.getElem_cons_succ, List.getElem_cons_zero])
        | (refine wpC_pass rfl (by rfl) (by decide) ?_
           try simp only [Act.put, List.setIfInBounds_toArray, List.set_cons_zero, List.set_cons_succ, List.getElem_toArray, List.getElem_cons_succ, List.getElem_cons_zero]))
      refine wpC_nil ?_
      go_wp2_with fail
      go_returns
      exact ⟨.of_none HX.out HL.out rfl, hk3.drew⟩
    · have hnil : S = ⟨#[]⟩ := by
        apply ByteArray.ext
        exact Array.eq_empty_of_size_eq_zero (by show S.size = 0; omega)
      have hemp : S.toList.isEmpty = true := by rw [hnil, ByteArray.toList_eq]; rfl
      have HX := Lib.hid hx
      have HL := Lib.hid hl
      clear hx hl hnil
      go_wp2_with fail
      go_returns
      exact ⟨.of_none HX.out HL.out rfl, hk0.alloc _⟩
  | some q =>
    obtain ⟨t, k⟩ := q
    have hne : 0 < S.size := by
      have := lexOne_len hl
      have h3 : S.data.toList.length = S.size := rfl
      omega
    have hemp := not_empty hne
    have HOne := fun w h => Lib.hid ((one_any S 0 w h hne (by omega)).mono fun e w' ⟨h1, h2⟩ => (⟨h1.is_some (by simpa using hl), h2⟩ : _ ∧ Keeps [] w w'))
    have HX := Lib.hid hx
    have HL := Lib.hid hl
    clear hx hl hne
    go_wp2_with (first
      | (go_at_call 16; refine (HOne _ (HG.out.keep (hk0.alloc _))).out.mono ?_; rintro e w2 ⟨rfl, hk2⟩; have hb2 := hk2.heap (heap_alloc_new w (.cells #[.int .i64 K, .string S, .int .i64 N, .int .i64 At] 34 (0, 0))) (by simp); have hlt2 := heap_lt hb2; obtain ⟨c0, c1, c2, c3, z0, z1, z2, z3⟩ := tok_block hb2))
    have hkw := (hk0.alloc (.cells #[.int .i64 K, .string S, .int .i64 N, .int .i64 At] 34 (0, 0))).then hk2
    have hb3 := set3_block hb2 (.int .i64 0)
    have hk3 := (hkw.setCell (.inr (Nat.le_refl w.heap.size)) (p := ⟨w.heap.size, 3, none⟩) (.int .i64 0)).alloc (.cells #[.int .i64 t.kind, .string ⟨t.s.toArray⟩, .int .i64 t.n, .int .i64 0] 34 (0, 0))
    have hb4 := alloc_old hb3 (.cells #[.int .i64 t.kind, .string ⟨t.s.toArray⟩, .int .i64 t.n, .int .i64 0] 34 (0, 0))
    have hb5 := heap_alloc_new (w2.setCell ⟨w.heap.size, 3, none⟩ (.int .i64 0)) (.cells #[.int .i64 t.kind, .string ⟨t.s.toArray⟩, .int .i64 t.n, .int .i64 0] 34 (0, 0))
    have hsz : (w2.setCell ⟨w.heap.size, 3, none⟩ (.int .i64 0)).heap.size = w2.heap.size := by simp [World.setCell]
    rw [hsz] at hb5
    generalize ((w2.setCell ⟨w.heap.size, 3, none⟩ (.int .i64 0)).alloc (.cells #[.int .i64 t.kind, .string ⟨t.s.toArray⟩, .int .i64 t.n, .int .i64 0] 34 (0, 0))) = w4 at *
    clear c0 c1 c2 c3 z0 z1 z2 z3 hb2 hb3 hsz
    obtain ⟨c0, c1, c2, c3, _, _, _, _⟩ := tok_block hb4
    obtain ⟨x0, x1, x2, x3, _, _, _, _⟩ := tok_block hb5
    have hE := fun w => run_eqIn_tok w t.kind t.n 0 K N 0 ⟨t.s.toArray⟩ S
    have hEg := tok_guard
    cases hks : ((k : Int) == (S.size : Int))
    all_goals
      refine wp_region_chain (fun W' => (W'.cell? ⟨w.heap.size, 0, none⟩ = some (.int .i64 K) ∧ W'.cell? ⟨w.heap.size, 1, none⟩ = some (.string S) ∧ W'.cell? ⟨w.heap.size, 2, none⟩ = some (.int .i64 N) ∧ W'.cell? ⟨w.heap.size, 3, none⟩ = some (.int .i64 0)) ∧
        (W'.cell? ⟨w2.heap.size, 0, none⟩ = some (.int .i64 t.kind) ∧ W'.cell? ⟨w2.heap.size, 1, none⟩ = some (.string ⟨t.s.toArray⟩) ∧ W'.cell? ⟨w2.heap.size, 2, none⟩ = some (.int .i64 t.n) ∧ W'.cell? ⟨w2.heap.size, 3, none⟩ = some (.int .i64 0))) [] [(0, 0), (1, 0), (2, 0), (3, 0), (4, 0), (5, 0), (6, 0), (7, 0), (8, 0), (9, 1), (10, 1), (11, 0), (12, 0), (13, 0), (14, 0)] (by kernel_rfl) (by kernel_rfl) (fun _ d _ _ _ h => by cases d <;> exact h) ⟨⟨c0, c1, c2, c3⟩, ⟨x0, x1, x2, x3⟩⟩ ?_
      clear c0 c1 c2 c3 x0 x1 x2 x3
      repeat (first
        | (refine wpC_pure (v := ?_) rfl (by rfl) ?_ ?_
           rotate_left 1
           · (intro w; go_simp; try with_reducible rfl)
           try simp only [Act.put, List.setIfInBounds_toArray, List.set_cons_zero, List.set_cons_succ, List.getElem_toArray, List.getElem_cons_succ, List.getElem_cons_zero])
        | (refine wpC_held (v := ?_) rfl (by rfl) ?_ ?_
           rotate_left 1
           · (rintro w ⟨⟨c0, c1, c2, c3⟩, ⟨x0, x1, x2, x3⟩⟩; go_simp; try with_reducible rfl)
           try simp only [Act.put, List.setIfInBounds_toArray, List.set_cons_zero, List.set_cons_succ, List.getElem_toArray, List.getElem_cons_succ, List.getElem_cons_zero])
        | (refine wpC_pass rfl (by rfl) (by decide) ?_
           try simp only [Act.put, List.setIfInBounds_toArray, List.set_cons_zero, List.set_cons_succ, List.getElem_toArray, List.getElem_cons_succ, List.getElem_cons_zero]))
      refine wpC_nil ?_
      go_wp2_with fail
      go_returns
    · refine ⟨.of_some (k := k) (t := t) HX.out HL.out ?_ rfl, hk3.drew⟩
      refine ⟨fun h => (by cases h), ?_⟩
      rintro ⟨rfl, _⟩
      simp at hks
    · refine ⟨.of_some (k := k) (t := t) HX.out HL.out ?_ rfl, hk3.drew⟩
      exact eq_fields (eq_of_beq hks)

set_option maxHeartbeats 4000000 in
set_option maxRecDepth 100000 in
theorem written_text (N At : Int) (S : ByteArray) (w : World) (hG : Glob w) (_hN : -9223372036854775808 ≤ N ∧ N ≤ 9223372036854775807) (hS : S.size ≤ 140737488351232) :
    Calls Tryd.prog 12 #[.agg #[.int .i64 3, .string S, .int .i64 N, .int .i64 At]] w fun e w' => WrittenOut 3 S N e ∧ Keeps [] w w' := by
  have hk0 := Keeps.refl [] w
  have HG := Lib.hid hG
  clear hG
  go_enter Tryd.func12, Tryd.ntmps12
  have hx : cand 3 S.data.toList N = ((⟨#[39]⟩ : ByteArray) ++ S ++ (⟨#[39]⟩ : ByteArray)).data.toList := by unfold cand; rw [if_neg (by decide), if_pos rfl]; simp [ByteArray.data_append]
  have hsz3 : ((⟨#[39]⟩ : ByteArray) ++ S ++ (⟨#[39]⟩ : ByteArray)).size = S.size + 2 := by rw [ByteArray.size_append, ByteArray.size_append]; show 1 + S.size + 1 = S.size + 2; omega
  have hne : 0 < ((⟨#[39]⟩ : ByteArray) ++ S ++ (⟨#[39]⟩ : ByteArray)).size := by omega
  cases hl : lexOne ((⟨#[39]⟩ : ByteArray) ++ S ++ (⟨#[39]⟩ : ByteArray)).data.toList with
  | none =>
    have hemp := not_empty hne
    have HOne := fun w h => Lib.hid ((one_any ((⟨#[39]⟩ : ByteArray) ++ S ++ (⟨#[39]⟩ : ByteArray)) 0 w h hne (by omega)).mono fun e w' ⟨h1, h2⟩ => (⟨h1.is_none (by simpa using hl), h2⟩ : _ ∧ Keeps [] w w'))
    have HX := Lib.hid hx
    have HL := Lib.hid hl
    clear hx hl hne
    go_wp2_with (first
      | (go_at_call 16; refine (HOne _ (HG.out.keep (hk0.alloc _))).out.mono ?_; rintro e w2 ⟨⟨a, b, n, d, E, rfl⟩, hk2⟩; have hb2 := hk2.heap (heap_alloc_new w (.cells #[.int .i64 3, .string S, .int .i64 N, .int .i64 At] 34 (0, 0))) (by simp); have hlt2 := heap_lt hb2; obtain ⟨c0, c1, c2, c3, z0, z1, z2, z3⟩ := tok_block hb2))
    clear hsz3
    generalize ((⟨#[39]⟩ : ByteArray) ++ S ++ (⟨#[39]⟩ : ByteArray)) = X at *
    have hkw := (hk0.alloc (.cells #[.int .i64 3, .string S, .int .i64 N, .int .i64 At] 34 (0, 0))).then hk2
    have hb3 := set3_block hb2 (.int .i64 0)
    have hk3 := (hkw.setCell (.inr (Nat.le_refl w.heap.size)) (p := ⟨w.heap.size, 3, none⟩) (.int .i64 0)).alloc (.cells #[.int .i64 a, .string b, .int .i64 n, .int .i64 d] 34 (0, 0))
    have hb4 := alloc_old hb3 (.cells #[.int .i64 a, .string b, .int .i64 n, .int .i64 d] 34 (0, 0))
    have hb5 := heap_alloc_new (w2.setCell ⟨w.heap.size, 3, none⟩ (.int .i64 0)) (.cells #[.int .i64 a, .string b, .int .i64 n, .int .i64 d] 34 (0, 0))
    have hsz : (w2.setCell ⟨w.heap.size, 3, none⟩ (.int .i64 0)).heap.size = w2.heap.size := by simp [World.setCell]
    rw [hsz] at hb5
    generalize ((w2.setCell ⟨w.heap.size, 3, none⟩ (.int .i64 0)).alloc (.cells #[.int .i64 a, .string b, .int .i64 n, .int .i64 d] 34 (0, 0))) = w4 at *
    clear c0 c1 c2 c3 z0 z1 z2 z3 hb2 hb3 hsz
    obtain ⟨c0, c1, c2, c3, _, _, _, _⟩ := tok_block hb4
    obtain ⟨x0, x1, x2, x3, _, _, _, _⟩ := tok_block hb5
    refine wp_region_chain (fun W' => (W'.cell? ⟨w.heap.size, 0, none⟩ = some (.int .i64 3) ∧ W'.cell? ⟨w.heap.size, 1, none⟩ = some (.string S) ∧ W'.cell? ⟨w.heap.size, 2, none⟩ = some (.int .i64 N) ∧ W'.cell? ⟨w.heap.size, 3, none⟩ = some (.int .i64 0)) ∧
      (W'.cell? ⟨w2.heap.size, 0, none⟩ = some (.int .i64 a) ∧ W'.cell? ⟨w2.heap.size, 1, none⟩ = some (.string b) ∧ W'.cell? ⟨w2.heap.size, 2, none⟩ = some (.int .i64 n) ∧ W'.cell? ⟨w2.heap.size, 3, none⟩ = some (.int .i64 d))) [] [(0, 0), (1, 0), (2, 0), (3, 0), (4, 0), (5, 0), (6, 0), (7, 0), (8, 0), (9, 1), (10, 1), (11, 0), (12, 0), (13, 0), (14, 0)] (by kernel_rfl) (by kernel_rfl) (fun _ d _ _ _ h => by cases d <;> exact h) ⟨⟨c0, c1, c2, c3⟩, ⟨x0, x1, x2, x3⟩⟩ ?_
    clear c0 c1 c2 c3 x0 x1 x2 x3
    repeat (first
      | (refine wpC_pure (v := ?_) rfl (by rfl) ?_ ?_
         rotate_left 1
         · (intro w; go_simp; try with_reducible rfl)
         try simp only [Act.put, List.setIfInBounds_toArray, List.set_cons_zero, List.set_cons_succ, List.getElem_toArray, List.getElem_cons_succ, List.getElem_cons_zero])
      | (refine wpC_held (v := ?_) rfl (by rfl) ?_ ?_
         rotate_left 1
         · (rintro w ⟨⟨c0, c1, c2, c3⟩, ⟨x0, x1, x2, x3⟩⟩; go_simp; try with_reducible rfl)
         try simp only [Act.put, List.setIfInBounds_toArray, List.set_cons_zero, List.set_cons_succ, List.getElem_toArray, List.getElem_cons_succ, List.getElem_cons_zero])
      | (refine wpC_pass rfl (by rfl) (by decide) ?_
         try simp only [Act.put, List.setIfInBounds_toArray, List.set_cons_zero, List.set_cons_succ, List.getElem_toArray, List.getElem_cons_succ, List.getElem_cons_zero]))
    refine wpC_nil ?_
    go_wp2_with fail
    go_returns
    exact ⟨.of_none HX.out HL.out rfl, hk3.drew⟩
  | some q =>
    obtain ⟨t, k⟩ := q
    have hemp := not_empty hne
    have HOne := fun w h => Lib.hid ((one_any ((⟨#[39]⟩ : ByteArray) ++ S ++ (⟨#[39]⟩ : ByteArray)) 0 w h hne (by omega)).mono fun e w' ⟨h1, h2⟩ => (⟨h1.is_some (by simpa using hl), h2⟩ : _ ∧ Keeps [] w w'))
    have HX := Lib.hid hx
    have HL := Lib.hid hl
    clear hx hl hne
    go_wp2_with (first
      | (go_at_call 16; refine (HOne _ (HG.out.keep (hk0.alloc _))).out.mono ?_; rintro e w2 ⟨rfl, hk2⟩; have hb2 := hk2.heap (heap_alloc_new w (.cells #[.int .i64 3, .string S, .int .i64 N, .int .i64 At] 34 (0, 0))) (by simp); have hlt2 := heap_lt hb2; obtain ⟨c0, c1, c2, c3, z0, z1, z2, z3⟩ := tok_block hb2))
    clear hsz3
    generalize ((⟨#[39]⟩ : ByteArray) ++ S ++ (⟨#[39]⟩ : ByteArray)) = X at *
    have hkw := (hk0.alloc (.cells #[.int .i64 3, .string S, .int .i64 N, .int .i64 At] 34 (0, 0))).then hk2
    have hb3 := set3_block hb2 (.int .i64 0)
    have hk3 := (hkw.setCell (.inr (Nat.le_refl w.heap.size)) (p := ⟨w.heap.size, 3, none⟩) (.int .i64 0)).alloc (.cells #[.int .i64 t.kind, .string ⟨t.s.toArray⟩, .int .i64 t.n, .int .i64 0] 34 (0, 0))
    have hb4 := alloc_old hb3 (.cells #[.int .i64 t.kind, .string ⟨t.s.toArray⟩, .int .i64 t.n, .int .i64 0] 34 (0, 0))
    have hb5 := heap_alloc_new (w2.setCell ⟨w.heap.size, 3, none⟩ (.int .i64 0)) (.cells #[.int .i64 t.kind, .string ⟨t.s.toArray⟩, .int .i64 t.n, .int .i64 0] 34 (0, 0))
    have hsz : (w2.setCell ⟨w.heap.size, 3, none⟩ (.int .i64 0)).heap.size = w2.heap.size := by simp [World.setCell]
    rw [hsz] at hb5
    generalize ((w2.setCell ⟨w.heap.size, 3, none⟩ (.int .i64 0)).alloc (.cells #[.int .i64 t.kind, .string ⟨t.s.toArray⟩, .int .i64 t.n, .int .i64 0] 34 (0, 0))) = w4 at *
    clear c0 c1 c2 c3 z0 z1 z2 z3 hb2 hb3 hsz
    obtain ⟨c0, c1, c2, c3, _, _, _, _⟩ := tok_block hb4
    obtain ⟨x0, x1, x2, x3, _, _, _, _⟩ := tok_block hb5
    have hE := fun w => run_eqIn_tok w t.kind t.n 0 3 N 0 ⟨t.s.toArray⟩ S
    have hEg := tok_guard
    cases hks : ((k : Int) == (X.size : Int))
    all_goals
      refine wp_region_chain (fun W' => (W'.cell? ⟨w.heap.size, 0, none⟩ = some (.int .i64 3) ∧ W'.cell? ⟨w.heap.size, 1, none⟩ = some (.string S) ∧ W'.cell? ⟨w.heap.size, 2, none⟩ = some (.int .i64 N) ∧ W'.cell? ⟨w.heap.size, 3, none⟩ = some (.int .i64 0)) ∧
        (W'.cell? ⟨w2.heap.size, 0, none⟩ = some (.int .i64 t.kind) ∧ W'.cell? ⟨w2.heap.size, 1, none⟩ = some (.string ⟨t.s.toArray⟩) ∧ W'.cell? ⟨w2.heap.size, 2, none⟩ = some (.int .i64 t.n) ∧ W'.cell? ⟨w2.heap.size, 3, none⟩ = some (.int .i64 0))) [] [(0, 0), (1, 0), (2, 0), (3, 0), (4, 0), (5, 0), (6, 0), (7, 0), (8, 0), (9, 1), (10, 1), (11, 0), (12, 0), (13, 0), (14, 0)] (by kernel_rfl) (by kernel_rfl) (fun _ d _ _ _ h => by cases d <;> exact h) ⟨⟨c0, c1, c2, c3⟩, ⟨x0, x1, x2, x3⟩⟩ ?_
      clear c0 c1 c2 c3 x0 x1 x2 x3
      repeat (first
        | (refine wpC_pure (v := ?_) rfl (by rfl) ?_ ?_
           rotate_left 1
           · (intro w; go_simp; try with_reducible rfl)
           try simp only [Act.put, List.setIfInBounds_toArray, List.set_cons_zero, List.set_cons_succ, List.getElem_toArray, List.getElem_cons_succ, List.getElem_cons_zero])
        | (refine wpC_held (v := ?_) rfl (by rfl) ?_ ?_
           rotate_left 1
           · (rintro w ⟨⟨c0, c1, c2, c3⟩, ⟨x0, x1, x2, x3⟩⟩; go_simp; try with_reducible rfl)
           try simp only [Act.put, List.setIfInBounds_toArray, List.set_cons_zero, List.set_cons_succ, List.getElem_toArray, List.getElem_cons_succ, List.getElem_cons_zero])
        | (refine wpC_pass rfl (by rfl) (by decide) ?_
           try simp only [Act.put, List.setIfInBounds_toArray, List.set_cons_zero, List.set_cons_succ, List.getElem_toArray, List.getElem_cons_succ, List.getElem_cons_zero]))
      refine wpC_nil ?_
      go_wp2_with fail
      go_returns
    · refine ⟨.of_some (k := k) (t := t) HX.out HL.out ?_ rfl, hk3.drew⟩
      refine ⟨fun h => (by cases h), ?_⟩
      rintro ⟨rfl, _⟩
      simp at hks
    · refine ⟨.of_some (k := k) (t := t) HX.out HL.out ?_ rfl, hk3.drew⟩
      exact eq_fields (eq_of_beq hks)

set_option maxHeartbeats 4000000 in
set_option maxRecDepth 100000 in
theorem written_num (N At : Int) (S : ByteArray) (w : World) (hG : Glob w) (hN : -9223372036854775808 ≤ N ∧ N ≤ 9223372036854775807) (_hS : S.size ≤ 140737488351232) :
    Calls Tryd.prog 12 #[.agg #[.int .i64 2, .string S, .int .i64 N, .int .i64 At]] w fun e w' => WrittenOut 2 S N e ∧ Keeps [] w w' := by
  have hk0 := Keeps.refl [] w
  have HG := Lib.hid hG
  clear hG
  go_enter Tryd.func12, Tryd.ntmps12
  have HF0 := fun w h => format_any N hN.1 hN.2 w h
  obtain ⟨X, hX⟩ : ∃ X : ByteArray, X = ⟨(Lib.itoa N).toArray⟩ := ⟨_, rfl⟩
  have hsz3 : X.size = (Lib.itoa N).length := by rw [hX]; simp [ByteArray.size]
  have hne : 0 < X.size := by rw [hsz3]; exact itoa_pos N
  have hs3 : X.size ≤ 281474976710656 := by rw [hsz3]; exact itoa_le hN.1 hN.2
  rw [← hX] at HF0
  have HF := fun w h => Lib.hid (HF0 w h)
  clear HF0 hsz3
  have hx : cand 2 S.data.toList N = X.data.toList := by unfold cand; rw [if_pos rfl, hX]
  clear hX
  cases hl : lexOne X.data.toList with
  | none =>
    have hemp := not_empty hne
    have HOne := fun w h => Lib.hid ((one_any X 0 w h hne (by omega)).mono fun e w' ⟨h1, h2⟩ => (⟨h1.is_none (by simpa using hl), h2⟩ : _ ∧ Keeps [] w w'))
    have HX := Lib.hid hx
    have HL := Lib.hid hl
    clear hx hl hne
    go_wp2_with (first
      | (go_at_call 16; refine (HOne _ (HG.out.keep ((hk0.alloc _).then hk1))).out.mono ?_; rintro e w2 ⟨⟨a, b, n, d, E, rfl⟩, hk2⟩; have hb2 := hk2.heap (hk1.heap (heap_alloc_new w (.cells #[.int .i64 2, .string S, .int .i64 N, .int .i64 At] 34 (0, 0))) (by simp)) (by simp); have hlt2 := heap_lt hb2; obtain ⟨c0, c1, c2, c3, z0, z1, z2, z3⟩ := tok_block hb2)
      | (go_at_call 17; refine (HF _ (HG.out.keep (hk0.alloc _))).out.mono ?_; rintro e w1 ⟨rfl, hk1⟩))
    have hkw := ((hk0.alloc (.cells #[.int .i64 2, .string S, .int .i64 N, .int .i64 At] 34 (0, 0))).then hk1).then hk2
    have hb3 := set3_block hb2 (.int .i64 0)
    have hk3 := (hkw.setCell (.inr (Nat.le_refl w.heap.size)) (p := ⟨w.heap.size, 3, none⟩) (.int .i64 0)).alloc (.cells #[.int .i64 a, .string b, .int .i64 n, .int .i64 d] 34 (0, 0))
    have hb4 := alloc_old hb3 (.cells #[.int .i64 a, .string b, .int .i64 n, .int .i64 d] 34 (0, 0))
    have hb5 := heap_alloc_new (w2.setCell ⟨w.heap.size, 3, none⟩ (.int .i64 0)) (.cells #[.int .i64 a, .string b, .int .i64 n, .int .i64 d] 34 (0, 0))
    have hsz : (w2.setCell ⟨w.heap.size, 3, none⟩ (.int .i64 0)).heap.size = w2.heap.size := by simp [World.setCell]
    rw [hsz] at hb5
    generalize ((w2.setCell ⟨w.heap.size, 3, none⟩ (.int .i64 0)).alloc (.cells #[.int .i64 a, .string b, .int .i64 n, .int .i64 d] 34 (0, 0))) = w4 at *
    clear c0 c1 c2 c3 z0 z1 z2 z3 hb2 hb3 hsz
    obtain ⟨c0, c1, c2, c3, _, _, _, _⟩ := tok_block hb4
    obtain ⟨x0, x1, x2, x3, _, _, _, _⟩ := tok_block hb5
    refine wp_region_chain (fun W' => (W'.cell? ⟨w.heap.size, 0, none⟩ = some (.int .i64 2) ∧ W'.cell? ⟨w.heap.size, 1, none⟩ = some (.string S) ∧ W'.cell? ⟨w.heap.size, 2, none⟩ = some (.int .i64 N) ∧ W'.cell? ⟨w.heap.size, 3, none⟩ = some (.int .i64 0)) ∧
      (W'.cell? ⟨w2.heap.size, 0, none⟩ = some (.int .i64 a) ∧ W'.cell? ⟨w2.heap.size, 1, none⟩ = some (.string b) ∧ W'.cell? ⟨w2.heap.size, 2, none⟩ = some (.int .i64 n) ∧ W'.cell? ⟨w2.heap.size, 3, none⟩ = some (.int .i64 d))) [] [(0, 0), (1, 0), (2, 0), (3, 0), (4, 0), (5, 0), (6, 0), (7, 0), (8, 0), (9, 1), (10, 1), (11, 0), (12, 0), (13, 0), (14, 0)] (by kernel_rfl) (by kernel_rfl) (fun _ d _ _ _ h => by cases d <;> exact h) ⟨⟨c0, c1, c2, c3⟩, ⟨x0, x1, x2, x3⟩⟩ ?_
    clear c0 c1 c2 c3 x0 x1 x2 x3
    repeat (first
      | (refine wpC_pure (v := ?_) rfl (by rfl) ?_ ?_
         rotate_left 1
         · (intro w; go_simp; try with_reducible rfl)
         try simp only [Act.put, List.setIfInBounds_toArray, List.set_cons_zero, List.set_cons_succ, List.getElem_toArray, List.getElem_cons_succ, List.getElem_cons_zero])
      | (refine wpC_held (v := ?_) rfl (by rfl) ?_ ?_
         rotate_left 1
         · (rintro w ⟨⟨c0, c1, c2, c3⟩, ⟨x0, x1, x2, x3⟩⟩; go_simp; try with_reducible rfl)
         try simp only [Act.put, List.setIfInBounds_toArray, List.set_cons_zero, List.set_cons_succ, List.getElem_toArray, List.getElem_cons_succ, List.getElem_cons_zero])
      | (refine wpC_pass rfl (by rfl) (by decide) ?_
         try simp only [Act.put, List.setIfInBounds_toArray, List.set_cons_zero, List.set_cons_succ, List.getElem_toArray, List.getElem_cons_succ, List.getElem_cons_zero]))
    refine wpC_nil ?_
    go_wp2_with fail
    go_returns
    exact ⟨.of_none HX.out HL.out rfl, hk3.drew⟩
  | some q =>
    obtain ⟨t, k⟩ := q
    have hemp := not_empty hne
    have HOne := fun w h => Lib.hid ((one_any X 0 w h hne (by omega)).mono fun e w' ⟨h1, h2⟩ => (⟨h1.is_some (by simpa using hl), h2⟩ : _ ∧ Keeps [] w w'))
    have HX := Lib.hid hx
    have HL := Lib.hid hl
    clear hx hl hne
    go_wp2_with (first
      | (go_at_call 16; refine (HOne _ (HG.out.keep ((hk0.alloc _).then hk1))).out.mono ?_; rintro e w2 ⟨rfl, hk2⟩; have hb2 := hk2.heap (hk1.heap (heap_alloc_new w (.cells #[.int .i64 2, .string S, .int .i64 N, .int .i64 At] 34 (0, 0))) (by simp)) (by simp); have hlt2 := heap_lt hb2; obtain ⟨c0, c1, c2, c3, z0, z1, z2, z3⟩ := tok_block hb2)
      | (go_at_call 17; refine (HF _ (HG.out.keep (hk0.alloc _))).out.mono ?_; rintro e w1 ⟨rfl, hk1⟩))
    have hkw := ((hk0.alloc (.cells #[.int .i64 2, .string S, .int .i64 N, .int .i64 At] 34 (0, 0))).then hk1).then hk2
    have hb3 := set3_block hb2 (.int .i64 0)
    have hk3 := (hkw.setCell (.inr (Nat.le_refl w.heap.size)) (p := ⟨w.heap.size, 3, none⟩) (.int .i64 0)).alloc (.cells #[.int .i64 t.kind, .string ⟨t.s.toArray⟩, .int .i64 t.n, .int .i64 0] 34 (0, 0))
    have hb4 := alloc_old hb3 (.cells #[.int .i64 t.kind, .string ⟨t.s.toArray⟩, .int .i64 t.n, .int .i64 0] 34 (0, 0))
    have hb5 := heap_alloc_new (w2.setCell ⟨w.heap.size, 3, none⟩ (.int .i64 0)) (.cells #[.int .i64 t.kind, .string ⟨t.s.toArray⟩, .int .i64 t.n, .int .i64 0] 34 (0, 0))
    have hsz : (w2.setCell ⟨w.heap.size, 3, none⟩ (.int .i64 0)).heap.size = w2.heap.size := by simp [World.setCell]
    rw [hsz] at hb5
    generalize ((w2.setCell ⟨w.heap.size, 3, none⟩ (.int .i64 0)).alloc (.cells #[.int .i64 t.kind, .string ⟨t.s.toArray⟩, .int .i64 t.n, .int .i64 0] 34 (0, 0))) = w4 at *
    clear c0 c1 c2 c3 z0 z1 z2 z3 hb2 hb3 hsz
    obtain ⟨c0, c1, c2, c3, _, _, _, _⟩ := tok_block hb4
    obtain ⟨x0, x1, x2, x3, _, _, _, _⟩ := tok_block hb5
    have hE := fun w => run_eqIn_tok w t.kind t.n 0 2 N 0 ⟨t.s.toArray⟩ S
    have hEg := tok_guard
    cases hks : ((k : Int) == (X.size : Int))
    all_goals
      refine wp_region_chain (fun W' => (W'.cell? ⟨w.heap.size, 0, none⟩ = some (.int .i64 2) ∧ W'.cell? ⟨w.heap.size, 1, none⟩ = some (.string S) ∧ W'.cell? ⟨w.heap.size, 2, none⟩ = some (.int .i64 N) ∧ W'.cell? ⟨w.heap.size, 3, none⟩ = some (.int .i64 0)) ∧
        (W'.cell? ⟨w2.heap.size, 0, none⟩ = some (.int .i64 t.kind) ∧ W'.cell? ⟨w2.heap.size, 1, none⟩ = some (.string ⟨t.s.toArray⟩) ∧ W'.cell? ⟨w2.heap.size, 2, none⟩ = some (.int .i64 t.n) ∧ W'.cell? ⟨w2.heap.size, 3, none⟩ = some (.int .i64 0))) [] [(0, 0), (1, 0), (2, 0), (3, 0), (4, 0), (5, 0), (6, 0), (7, 0), (8, 0), (9, 1), (10, 1), (11, 0), (12, 0), (13, 0), (14, 0)] (by kernel_rfl) (by kernel_rfl) (fun _ d _ _ _ h => by cases d <;> exact h) ⟨⟨c0, c1, c2, c3⟩, ⟨x0, x1, x2, x3⟩⟩ ?_
      clear c0 c1 c2 c3 x0 x1 x2 x3
      repeat (first
        | (refine wpC_pure (v := ?_) rfl (by rfl) ?_ ?_
           rotate_left 1
           · (intro w; go_simp; try with_reducible rfl)
           try simp only [Act.put, List.setIfInBounds_toArray, List.set_cons_zero, List.set_cons_succ, List.getElem_toArray, List.getElem_cons_succ, List.getElem_cons_zero])
        | (refine wpC_held (v := ?_) rfl (by rfl) ?_ ?_
           rotate_left 1
           · (rintro w ⟨⟨c0, c1, c2, c3⟩, ⟨x0, x1, x2, x3⟩⟩; go_simp; try with_reducible rfl)
           try simp only [Act.put, List.setIfInBounds_toArray, List.set_cons_zero, List.set_cons_succ, List.getElem_toArray, List.getElem_cons_succ, List.getElem_cons_zero])
        | (refine wpC_pass rfl (by rfl) (by decide) ?_
           try simp only [Act.put, List.setIfInBounds_toArray, List.set_cons_zero, List.set_cons_succ, List.getElem_toArray, List.getElem_cons_succ, List.getElem_cons_zero]))
      refine wpC_nil ?_
      go_wp2_with fail
      go_returns
    · refine ⟨.of_some (k := k) (t := t) HX.out HL.out ?_ rfl, hk3.drew⟩
      refine ⟨fun h => (by cases h), ?_⟩
      rintro ⟨rfl, _⟩
      simp at hks
    · refine ⟨.of_some (k := k) (t := t) HX.out HL.out ?_ rfl, hk3.drew⟩
      exact eq_fields (eq_of_beq hks)

theorem written_any (K N At : Int) (S : ByteArray) (w : World) (hG : Glob w) (hN : -9223372036854775808 ≤ N ∧ N ≤ 9223372036854775807) (hS : S.size ≤ 140737488351232) :
    Calls Tryd.prog 12 #[.agg #[.int .i64 K, .string S, .int .i64 N, .int .i64 At]] w fun e w' => WrittenOut K S N e ∧ Keeps [] w w' := by
  by_cases h2 : K = 2
  · subst h2; exact written_num N At S w hG hN hS
  · by_cases h3 : K = 3
    · subst h3; exact written_text N At S w hG hN hS
    · exact written_plain K N At S w hG hN hS h2 h3

end Go.Proofs.YtfoeadiejcheiaaDoor
