/- Contract of Tokens. Conditions: those of each theorem. -/
import Derived.Test.YtfoeadiejcheiaaDoorTokU
namespace Go.Proofs.YtfoeadiejcheiaaDoor
open Go.RowKit

theorem rtTok : RowTy Tryd.prog 22 34 4 40 := ⟨by kernel_rfl, by kernel_rfl, by decide⟩

theorem own_ge {w : World} {base e size : Nat} {v : Value} {n : Nat} {xs : List Value} (h : w.ownsRow base e size v n xs) {b : Nat} (hb : v.ownBlock = some b) : base ≤ b := by
  rcases h.2 with ⟨rfl, _⟩ | ⟨g, cap, cur, rfl, hg, _⟩
  · cases hb
  · simp only [Value.ownBlock, Option.some.injEq] at hb
    omega

theorem own_set_two {w : World} {base e size : Nat} {v : Value} {n : Nat} {xs : List Value} (h : w.ownsRow base e size v n xs) {B : Nat} (p q : Value) (hne : v.ownBlock ≠ some B) : ((w.setCell ⟨B, 0, none⟩ p).setCell ⟨B, 1, none⟩ q).ownsRow base e size v n xs :=
  own_set_other (own_set_other h p hne) q hne

theorem alloc_old {w : World} {B : Nat} {o : Obj} (h : w.heap[B]? = some o) (o' : Obj) : (w.alloc o').heap[B]? = some o := (Keeps.alloc (Keeps.refl [] _) o').heap h (by simp)

theorem run_past (s : ByteArray) (p k B : Nat) (w : World) (hT : Tab w) (hat : p + k ≤ s.size) (hs : s.size ≤ 4611686018427387904) (hB : w.heap[B]? = some (.cells #[.int .u8 1] 5 (0, 0))) :
    Calls Tryd.prog 15 #[.string s, .int .i64 ((p : Int) + (k : Int)), .slice (some ⟨B, 0, none⟩) 1 1] w fun e w' => e = .returned (.int .i64 ((past s (p + k) : Nat) : Int)) ∧ Keeps [] w w' := by
  have h := run_blank s (p + k) B w hT hat hs hB
  have e : ((p + k : Nat) : Int) = (p : Int) + (k : Int) := by omega
  rw [e] at h
  exact h

theorem blk_after {wr w3 : World} {B : Nat} {o o' : Obj} {row : Option Nat} (hb : wr.heap[B]? = some o) (hg : (wr.alloc o').grownBy w3 row) (hne : row ≠ some B) : w3.heap[B]? = some o := by
  have hlt := heap_lt hb
  rw [hg.block B (by simp; omega) (fun h => hne h.symm)]
  exact (Keeps.alloc (Keeps.refl [] _) o').heap hb (by simp)

theorem OneOut.is_none {s : ByteArray} {at_ : Nat} {e : Ending} (h : OneOut s at_ True e) (hl : lexOne (s.data.toList.drop at_) = none) :
    ∃ (a : Int) (b : ByteArray) (n d E : Int), e = .returned (.tuple #[.agg #[.int .i64 a, .string b, .int .i64 n, .int .i64 d], .int .i64 E, .bool false]) := by
  obtain ⟨a, b, n, d, E, o, rfl, h2⟩ := h
  have h3 := h2 trivial
  unfold OneIs at h3
  rw [hl] at h3
  obtain ⟨a', b', n', d', E', h4⟩ := h3
  exact ⟨a', b', n', d', E', by rw [h4]; rfl⟩
theorem OneOut.is_some {s : ByteArray} {at_ : Nat} {e : Ending} (h : OneOut s at_ True e) {t : Tok} {k : Nat} (hl : lexOne (s.data.toList.drop at_) = some (t, k)) :
    e = .returned (.tuple #[.agg #[.int .i64 t.kind, .string ⟨t.s.toArray⟩, .int .i64 t.n, .int .i64 at_], .int .i64 ((at_ + k : Nat) : Int), .bool true]) := by
  obtain ⟨a, b, n, d, E, o, rfl, h2⟩ := h
  have h3 := h2 trivial
  unfold OneIs at h3
  rw [hl] at h3
  rw [h3]
  rfl

set_option maxHeartbeats 4000000 in
set_option maxRecDepth 100000 in
theorem tokens_any (s : ByteArray) (w : World) (hG : Glob w) : 
    Calls Tryd.prog 11 #[.string s] w fun e w' => TokensOut w s e w' ∧ Keeps [] w w' := by
  have hk0 := Keeps.refl [] w
  have HG := Lib.hid hG
  clear hG
  go_enter Tryd.func11, Tryd.ntmps11
  by_cases hlong : 262144 < s.size
  · have d1 : decide ((s.size : Int) > 262144) = true := by simp; omega
    go_wp2_with fail
    refine ret_val_row rfl w.heap.size _ _ _ _ rfl (heap_alloc_new _ _) Tryd.underlying30 rfl (by kernel_rfl) rfl ?_
    exact ⟨.long hlong rfl, hk0.alloc _⟩
  · have d1 : decide ((s.size : Int) > 262144) = false := by simp; omega
    go_wp2_with fail
    have hB0 := (Keeps.alloc (Keeps.refl [] _) (.cells #[.int .u8 1] 5 (0, 0))).heap (heap_alloc_new w (.cells #[.int .i64 0, .int .i64 0] 30 (0, 0))) (by simp)
    have hB1 := heap_alloc2_new w (.cells #[.int .i64 0, .int .i64 0] 30 (0, 0)) (.cells #[.int .u8 1] 5 (0, 0))
    have hk1 := (hk0.alloc (.cells #[.int .i64 0, .int .i64 0] 30 (0, 0))).alloc (.cells #[.int .u8 1] 5 (0, 0))
    generalize ((w.alloc (.cells #[.int .i64 0, .int .i64 0] 30 (0, 0))).alloc (.cells #[.int .u8 1] 5 (0, 0))) = w1 at *
    refine (run_blank s 0 (w.heap.size + 1) w1 (HG.out.keep hk1).tab (Nat.zero_le _) (by omega) hB1).mono ?_
    rintro e w2 ⟨rfl, hk2⟩
    have hb2 := hk2.heap hB0 (by simp)
    have hkw := hk1.then hk2
    clear hk2 hB0 hB1 hk1
    go_wp2_with fail
    go_loopw [4, 5] (fun o i wr => ∃ (p : Nat) (xs : List (Tok × Nat)) (ao : Option Addr) (cp : Nat), i = .int .i64 (past s p : Nat) ∧ o = .slice ao xs.length cp ∧ xs.length ≤ 4096 ∧ Hid (LexAt s p xs) ∧ Hid (wr.ownsRow (w.heap.size + 1) 34 4 o xs.length (tokCells xs)) ∧ Hid (wr.heap[w.heap.size]? = some (.cells #[.int .i64 0, .int .i64 0] 30 (0, 0))) ∧ Keeps [] w wr) (fun _ i _ => s.size - (intOf i).toNat)
    case atStart => exact ⟨0, [], none, 0, by simp [past], rfl, by simp, Lib.hid (LexAt.start s), Lib.hid ⟨rfl, .inl ⟨rfl, rfl⟩⟩, Lib.hid hb2, hkw⟩
    case round =>
      clear hkw hb2
      obtain ⟨p, xs, ao, cp, rfl, rfl, hn4, hL, hown, hb, hk⟩ := hrel
      have hps : p ≤ s.size := hL.out.1
      obtain ⟨hpp, hp2⟩ := past_le hps
      by_cases hlt : past s p < s.size
      · have d2 : decide (((past s p : Nat) : Int) < (s.size : Int)) = true := by simp; omega
        cases hlex : lexOne (s.data.toList.drop (past s p)) with
        | none =>
          have hT := Lib.hid (hL.out.fail hlt hlex)
          have HOne := fun w h => Lib.hid ((one_any s (past s p) w h hlt (by omega)).mono fun e w' ⟨h1, h2⟩ => (⟨h1.is_none hlex, h2⟩ : _ ∧ Keeps [] w w'))
          clear hL hps hpp hp2 hlex
          generalize past s p = pp at *
          go_wp2_with (go_at_call 16; refine (HOne _ (HG.out.keep hk)).out.mono ?_; rintro e w2 ⟨⟨a, b, n, d, E, rfl⟩, hk2⟩; have hlt2 := heap_lt (hk2.heap hb.out (by simp)); obtain ⟨c0, c1, z0, z1⟩ := blk_two (hk2.heap hb.out (by simp)))
          refine ret_val_row rfl w.heap.size _ _ _ _ rfl (alloc_old (set2_block (hk2.heap hb.out (by simp)) _ _) _) Tryd.underlying30 rfl (by kernel_rfl) rfl ?_
          exact ⟨.bad hlong hT.out rfl, (Keeps.set2 (hk.then hk2) (Nat.le_refl _) _ _).alloc _⟩
        | some q =>
          obtain ⟨t, k⟩ := q
          have HOne := fun w h => Lib.hid ((one_any s (past s p) w h hlt (by omega)).mono fun e w' ⟨h1, h2⟩ => (⟨h1.is_some hlex, h2⟩ : _ ∧ Keeps [] w w'))
          by_cases h4 : xs.length = 4096
          · have hT := Lib.hid (hL.out.full hlt hlex h4)
            clear hL hps hpp hp2 hlex
            generalize past s p = pp at *
            go_wp2_with (go_at_call 16; refine (HOne _ (HG.out.keep hk)).out.mono ?_; rintro e w2 ⟨rfl, hk2⟩; have hlt2 := heap_lt (hk2.heap hb.out (by simp)); obtain ⟨c0, c1, z0, z1⟩ := blk_two (hk2.heap hb.out (by simp)))
            refine ret_val_row rfl w.heap.size _ _ _ _ rfl (alloc_old (set2_block (hk2.heap hb.out (by simp)) _ _) _) Tryd.underlying30 rfl (by kernel_rfl) rfl ?_
            exact ⟨.bad hlong hT.out rfl, (Keeps.set2 (hk.then hk2) (Nat.le_refl _) _ _).alloc _⟩
          · obtain ⟨hnext, hk1⟩ := hL.out.next hlt hlex h4
            have hpk : past s p + k ≤ s.size := hnext.1
            have hq := past_le hpk
            have HRun := fun w B h1 h2 => Lib.hid (run_past s (past s p) k B w h1 hpk (by omega) h2)
            have HN := Lib.hid hnext
            have hge : ∀ b, (Value.slice ao xs.length cp).ownBlock = some b → w.heap.size + 1 ≤ b := fun b h => own_ge hown.out h
            have HGE := Lib.hid hge
            clear hnext hL hps hpp hp2 hlex hge
            have d3 : (((xs.length : Nat) : Int) == 4096) = false := by rw [beq_eq_false_iff_ne]; omega
            generalize hpe2 : past s p = pp at *
            go_wp2_with (first
              | (go_at_call 16; refine (HOne _ (HG.out.keep hk)).out.mono ?_; rintro e w2 ⟨rfl, hk2⟩; have hlt2 := heap_lt (hk2.heap hb.out (by simp)))
              | (at_builtin; refine list_append_any rtTok (by rfl) _ _ (by rfl) (w.heap.size + 1) _ xs.length (tokCells xs) (by rfl) (((own_kept hown.out hk2 (by simp)).alloc _).alloc _) _ 1 [.int .i64 t.kind, .string ⟨t.s.toArray⟩, .int .i64 t.n, .int .i64 (pp : Nat)] (by rfl) (SlC.of_block (cs := #[.int .i64 t.kind, .string ⟨t.s.toArray⟩, .int .i64 t.n, .int .i64 (pp : Nat)]) (t := 34) (fr := (0, 0)) (heap_alloc2_new _ _ _) (by rfl)) (by simp [Value.oneCell']) (by omega) (by unfold maxLen; omega) (by simp; omega) ?_; intro ao3 cp3 w3 hown3 hgrow3 hat3 hnil3; have hb3 := blk_after (alloc_old (hk2.heap hb.out (by simp)) _) hgrow3 (fun h => by have := HGE.out _ h; omega); have HO3 := Lib.hid hown3; clear hown3; have HB3 := Lib.hid hb3; clear hb3; have hk3 : Keeps [] w w3 := (((hk.then hk2).alloc _).alloc _).grown hgrow3 (fun k h => .inr (by have := HGE.out _ h; omega)))
              | (go_at_call 15; refine (HRun _ _ (HG.out.keep (hk3.alloc _)).tab (heap_alloc_new _ _)).out.mono ?_; rintro e w4 ⟨rfl, hk4⟩))
            refine ⟨⟨pp + k, xs ++ [(t, pp)], ao3, cp3, rfl, by simp, by simp; omega, HN, Lib.hid ?_, Lib.hid (hk4.heap (alloc_old HB3.out _) (by simp)), (hk3.alloc _).then hk4⟩, by simp only [intOf]; omega⟩
            rw [tokCells_snoc]
            simp only [List.length_append, List.length_singleton]
            exact own_kept (HO3.out.alloc _) hk4 (by simp)
      · have d2 : decide (((past s p : Nat) : Int) < (s.size : Int)) = false := by simp; omega
        have hT := Lib.hid (hL.out.stop hlt)
        clear hL hps hpp hp2
        generalize past s p = pp at *
        have hB := hb.out
        have hlt2 := heap_lt hB
        have hge : ∀ b, (Value.slice ao xs.length cp).ownBlock = some b → w.heap.size + 1 ≤ b := fun b h => own_ge hown.out h
        have hbase : ∀ o, w.heap.size + 1 ≤ (wr.alloc o).heap.size := fun o => by simp; omega
        have HB := Lib.hid hB
        have HGE := Lib.hid hge
        clear hB hge hb
        go_wp2_with (at_builtin; refine list_append_any rtTok (by rfl) _ _ (by rfl) (w.heap.size + 1) _ xs.length (tokCells xs) (by rfl) (hown.out.alloc _) _ 1 [.int .i64 0, .string ⟨#[]⟩, .int .i64 0, .int .i64 s.size] (by rfl) (SlC.of_block (cs := #[.int .i64 0, .string ⟨#[]⟩, .int .i64 0, .int .i64 s.size]) (t := 34) (fr := (0, 0)) (heap_alloc_new _ _) (by rfl)) (by simp [Value.oneCell']) (by omega) (by unfold maxLen; omega) (hbase _) ?_; intro ao3 cp3 w3 hown3 hgrow3 hat3 hnil3; have hb3 := blk_after HB.out hgrow3 (fun h => by have := HGE.out _ h; omega); obtain ⟨c0, c1, z0, z1⟩ := blk_two hb3; have HO3 := Lib.hid hown3; clear hown3)
        refine ret_val_row rfl w.heap.size _ _ _ _ rfl (set2_block hb3 _ _) Tryd.underlying30 rfl (by kernel_rfl) rfl ?_
        have hk3 : Keeps [] w w3 := (hk.alloc _).grown hgrow3 (fun k h => .inr (by have := HGE.out _ h; omega))
        exact ⟨.good hlong hT.out rfl (own_set_two HO3.out _ _ (fun h => by have := own_ge HO3.out h; omega)), Keeps.set2 hk3 (Nat.le_refl _) _ _⟩

end Go.Proofs.YtfoeadiejcheiaaDoor
