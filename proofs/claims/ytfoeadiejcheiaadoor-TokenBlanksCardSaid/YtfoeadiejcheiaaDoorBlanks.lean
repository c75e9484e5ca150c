/- TokenBlanks, walked. Conditions: those of each theorem. -/
import Derived.Test.YtfoeadiejcheiaaDoorLawG
namespace Go.Proofs.YtfoeadiejcheiaaDoor
open Go.RowKit

set_option maxHeartbeats 8000000 in
set_option maxRecDepth 100000 in
theorem tokenBlanks_any (s : ByteArray) (many : Int) (w : World) (hG : Glob w) (hs : s.size ≤ 140737488351232) (hm : -9223372036854775808 ≤ many ∧ many ≤ 9223372036854775807) :
    Calls Tryd.prog 5 #[.string s, .int .i64 many] w fun e w' => e = .returned (.bool true) ∧ Keeps [] w w' := by
  have hk0 := Keeps.refl [] w
  have HG := Lib.hid hG
  have HWk := fun w hG => Lib.hid (works_any w hG)
  clear hG
  rcases tok_split s with hbad | ⟨hsz, xs, hT⟩
  · have HB := fun w hG => Lib.hid (tokens_fault hbad w hG)
    clear hbad
    go_enter Tryd.func5, Tryd.ntmps5
    go_wp2_with fail
    refine (HWk _ (HG.out.keep hk0)).out.mono ?_
    rintro e w1 ⟨rfl, hk1⟩
    go_wp2_with fail
    refine (HB _ (HG.out.keep hk1)).out.mono ?_
    rintro e w2 ⟨⟨p, c, rfl, hc⟩, hk2⟩
    have hkw := (hk1.then hk2).alloc (.cells #[.int .i64 p, .int .i64 c] 30 (0, 0))
    have E := run_eqIn_fault
    have G := fault_guard
    have d0 : ((p == 0) && (c == 0)) = false := by rw [hc]; simp
    clear hk1 hk2 hc
    go_wp2_with fail
    go_returns
    exact ⟨rfl, hkw⟩
  · obtain ⟨q, hq⟩ : ∃ q, xs.length = q := ⟨_, rfl⟩
    have HT1 := fun w hG => Lib.hid (tokens_new hsz hT hq w hG)
    obtain ⟨ts, hts, hxt, htn, _⟩ := join_toks hT s.size
    have hql : ts.length = q := by
      have := congrArg List.length hxt
      simp at this
      omega
    have HTS := Lib.hid hts
    have HXT := Lib.hid hxt
    have HQ := Lib.hid hq
    have HQL := Lib.hid hql
    have hq4 : q ≤ 4096 := by omega
    clear hT hts hxt hq htn hql
    go_enter Tryd.func5, Tryd.ntmps5
    go_wp2_with fail
    refine (HWk _ (HG.out.keep hk0)).out.mono ?_
    rintro e w1 ⟨rfl, hk1⟩
    go_wp2_with fail
    refine (HT1 _ (HG.out.keep hk1)).out.mono ?_
    rintro e w2 ⟨⟨g, cp, rfl, hN⟩, hk2⟩
    have ha := (Keeps.refl [] w2).alloc (.cells #[.int .i64 0, .int .i64 0] 30 (0, 0))
    have hk3 := (hk1.then hk2).then ha
    have HN := Lib.hid hN
    have hcg := hN.cap
    have hcr := hN.room
    have hgn := Nat.le_trans hk1.size hN.new
    have EQ := run_eqIn_fault
    have GD := fault_guard
    clear hN
    by_cases hlong : 500 < q + 1
    · have d1 : decide ((q : Int) + 1 > 500) = true := by simp; omega
      go_wp2_with fail
      go_returns
      exact ⟨rfl, hk3⟩
    · have d1 : decide ((q : Int) + 1 > 500) = false := by simp; omega
      by_cases hlong2 : 20000 < s.size
      · have d2 : decide ((s.size : Int) > 20000) = true := by simp; omega
        go_wp2_with fail
        go_returns
        exact ⟨rfl, hk3⟩
      · have d2 : decide ((s.size : Int) > 20000) = false := by simp; omega
        go_wp2_with fail
        obtain ⟨M, hM, hM1, hM5⟩ : ∃ M : Nat, wrap64 (1 + wrap64 ((IntKind.u64.wrap many).tmod 5)) = (M : Int) ∧ 1 ≤ M ∧ M ≤ 5 := by
          obtain ⟨u, hu, hu0⟩ : ∃ u, u = IntKind.u64.wrap many ∧ 0 ≤ u := ⟨_, rfl, by simp [IntKind.wrap, IntKind.bits, IntKind.signed]; omega⟩
          rw [← hu, Int.tmod_eq_emod_of_nonneg hu0]
          refine ⟨(1 + u % 5).toNat, ?_, ?_, ?_⟩
          · unfold wrap64; omega
          · omega
          · omega
        rw [hM]
        obtain ⟨w3, hw3⟩ : ∃ w3, w3 = w2.alloc (.cells #[.int .i64 0, .int .i64 0] 30 (0, 0)) := ⟨_, rfl⟩
        rw [← hw3] at ha hk3 ⊢
        have HS := Lib.hid (HN.out.is.keep ha)
        have hfx : ∀ o, w3.frozen? ⟨g, o, none⟩ = false := fun o => by
          rw [World.frozen?_of_block (ha.block g HN.out.lt (by simp))]; exact HN.out.free o
        have hgb : g < w3.heap.size := Nat.lt_of_lt_of_le HN.out.lt ha.size
        have HFX := Lib.hid hfx
        clear hw3 ha hk1 hk2 HN HT1 HWk EQ GD d1 d2 hM hfx
        go_loopw [7, 42] (fun gp i wr => ∃ (k : Nat) (G : ByteArray), k ≤ M ∧ i = .int .i64 k ∧ gp = .string G ∧ G.size = k ∧ Hid (∀ c ∈ G.data.toList, isBlank c = true) ∧ w3 = wr) (fun _ i _ => M - (intOf i).toNat)
        case atStart => exact ⟨0, ⟨#[]⟩, Nat.zero_le _, rfl, rfl, rfl, Lib.hid (by simp), rfl⟩
        case round =>
          obtain ⟨k, G, hkM, rfl, rfl, hGs, hGb, rfl⟩ := hrel
          by_cases hlt : k < M
          · have d1 : decide ((k : Int) < (M : Int)) = true := by simp; omega
            have hk5 : k = 0 ∨ k = 1 ∨ k = 2 ∨ k = 3 ∨ k = 4 := by omega
            have hsum : ∀ X : ByteArray, X.size = 1 → (∀ c ∈ X.data.toList, isBlank c = true) → (G ++ X).size = k + 1 ∧ Hid (∀ c ∈ (G ++ X).data.toList, isBlank c = true) := fun X h1 h2 => by
              refine ⟨by rw [ByteArray.size_append, hGs, h1], Lib.hid ?_⟩
              intro c hc
              simp at hc
              rcases hc with hc | hc
              · exact hGb.out c (by simpa using hc)
              · exact h2 c (by simpa using hc)
            rcases hk5 with rfl | rfl | rfl | rfl | rfl
            · go_wp2_with fail
              obtain ⟨h1, h2⟩ := hsum ((⟨#[32, 10]⟩ : ByteArray).extract 0 1) (by decide) (by decide)
              exact ⟨⟨1, _, by omega, rfl, rfl, h1, h2, trivial⟩, by simp only [intOf]; omega⟩
            · go_wp2_with fail
              obtain ⟨h1, h2⟩ := hsum ((⟨#[32, 10]⟩ : ByteArray).extract 1 2) (by decide) (by decide)
              exact ⟨⟨2, _, by omega, rfl, rfl, h1, h2, trivial⟩, by simp only [intOf]; omega⟩
            · go_wp2_with fail
              obtain ⟨h1, h2⟩ := hsum ((⟨#[32, 10]⟩ : ByteArray).extract 0 1) (by decide) (by decide)
              exact ⟨⟨3, _, by omega, rfl, rfl, h1, h2, trivial⟩, by simp only [intOf]; omega⟩
            · go_wp2_with fail
              obtain ⟨h1, h2⟩ := hsum ((⟨#[32, 10]⟩ : ByteArray).extract 1 2) (by decide) (by decide)
              exact ⟨⟨4, _, by omega, rfl, rfl, h1, h2, trivial⟩, by simp only [intOf]; omega⟩
            · go_wp2_with fail
              obtain ⟨h1, h2⟩ := hsum ((⟨#[32, 10]⟩ : ByteArray).extract 0 1) (by decide) (by decide)
              exact ⟨⟨5, _, by omega, rfl, rfl, h1, h2, trivial⟩, by simp only [intOf]; omega⟩
          · have hke : k = M := by omega
            have d1 : decide ((k : Int) < (M : Int)) = false := by simp; omega
            subst hke
            have hgap : ∀ c ∈ G.data.toList, isBlank c = true := hGb.out
            have hgl : G.data.toList.length = k := by rw [Array.length_toList]; exact hGs
            have HGAP := Lib.hid hgap
            clear hgap hGb
            go_wp2_with fail
            go_loopw [9, 10] (fun tx i wr => ∃ (j : Nat) (B : ByteArray), j ≤ q ∧ i = .int .i64 j ∧ tx = .string B ∧ Hid (B.data.toList = between G.data.toList ((ts.take j).map (·.1))) ∧ B.size ≤ 5 + j * 305 ∧ Keeps [] w3 wr) (fun _ i _ => q - (intOf i).toNat)
            case atStart => exact ⟨0, G, Nat.zero_le _, rfl, rfl, Lib.hid rfl, by omega, Keeps.refl _ _⟩
            case round =>
              obtain ⟨j, B, hjq, rfl, rfl, hB, hBs, hk⟩ := hrel
              by_cases hlt : j < q
              · have d1 : decide ((j : Int) + 1 < (q : Int) + 1) = true := by simp; omega
                have hjl : j < ts.length := by rw [HQL.out]; exact hlt
                have hxj : j < xs.length := by rw [HQ.out]; exact hlt
                obtain ⟨p, hp⟩ : ∃ p, ts[j] = p := ⟨_, rfl⟩
                have hlex : lexOne p.1 = some (p.2, p.1.length) := HTS.out p (hp ▸ List.getElem_mem hjl)
                obtain ⟨a, hxa⟩ : ∃ a, xs[j] = (p.2, a) := by
                  refine ⟨xs[j].2, ?_⟩
                  have h1 := congrArg (·[j]?) HXT.out
                  simp only [List.getElem?_map, List.getElem?_eq_getElem hxj, List.getElem?_eq_getElem hjl, Option.map_some, Option.some.injEq] at h1
                  rw [hp] at h1
                  rw [← h1]
                have hxr : (toksR xs s.size)[j]? = some (tokR (p.2, a)) := by
                  unfold toksR
                  rw [List.getElem?_append_left (by simpa using hxj), List.getElem?_map, List.getElem?_eq_getElem hxj, hxa]
                  rfl
                have hcells := (HS.out.keep hk) j _ hxr
                have hok : ∀ y ∈ [tokR (p.2, a)], y.ok := by
                  have hb := lexOne_bounds hlex
                  intro y hy
                  simp at hy
                  subst hy
                  exact ⟨by simp only [tokR]; omega, by simp only [tokR]; omega, by show (p.2.s.toArray).size ≤ _; simp; omega⟩
                have hA : ∀ cp', 1 ≤ cp' → cp' ≤ 9223372036854775807 → ArgTok wr (.slice (some ⟨g, j * 4, none⟩) 1 cp') [tokR (p.2, a)] := fun cp' h1 h2 => by
                  refine ⟨_, _, rfl, (fun e => nomatch e), fun _ => ⟨g, j * 4, rfl, ?_, h1, h2⟩⟩
                  intro i y hi
                  have hi0 : i = 0 := by
                    rcases Nat.eq_zero_or_pos i with h | h
                    · exact h
                    · rw [List.getElem?_eq_none (by simp; omega)] at hi; cases hi
                  subst hi0
                  cases hi
                  simp only [Nat.zero_add] at hcells
                  simp only [Nat.zero_mul, Nat.add_zero]
                  exact hcells
                have HJ := fun cp' h1 h2 => Lib.hid (join_fine (joinM_one hlex a) wr (HG.out.keep (hk3.then hk)) hok (hA cp' h1 h2))
                have hwl := (lexOne_short hlex)
                have hws : (⟨p.1.toArray⟩ : ByteArray).size = p.1.length := by simp [ByteArray.size]
                have HB2 : Hid (B.data.toList ++ (p.1 ++ G.data.toList) = between G.data.toList ((ts.take (j + 1)).map (·.1))) := Lib.hid (by
                  rw [List.take_succ_eq_append_getElem hjl, List.map_append, List.map_singleton, between_snoc, ← hB.out, hp])
                clear hxa hxr hcells hok hA hlex hp
                obtain ⟨bw, hbw⟩ : ∃ bw : ByteArray, bw = ⟨p.1.toArray⟩ := ⟨_, rfl⟩
                have HBW := Lib.hid hbw
                rw [← hbw] at HJ hws
                clear hbw
                go_wp2_with (go_at_call 7; refine (HJ _ (by omega) (by omega)).out.mono ?_; rintro e w5 ⟨rfl, hk5⟩)
                refine ⟨⟨j + 1, B ++ (bw ++ G), by omega, by simp, rfl, Lib.hid ?_, ?_, hk.then hk5⟩, by simp only [intOf]; omega⟩
                · rw [← HB2.out, HBW.out]
                  simp
                · rw [ByteArray.size_append, ByteArray.size_append]
                  omega
              · have hje : j = q := by omega
                have d1 : decide ((j : Int) + 1 < (q : Int) + 1) = false := by simp; omega
                have hall : ts.take j = ts := List.take_of_length_le (by rw [HQL.out, hje]; exact Nat.le_refl _)
                have hB2 := hB.out
                rw [hall] at hB2
                have hgne : G.data.toList ≠ [] := by intro h; rw [h] at hgl; simp at hgl; omega
                obtain ⟨ys, hT2, hy⟩ := toks_between HGAP.out hgne HTS.out (by rw [HQL.out]; exact hq4)
                have hyl : ys.length = q := by
                  have := congrArg List.length hy
                  simp at this
                  have h2 := HQL.out
                  omega
                have hBe : (⟨(between G.data.toList (ts.map (·.1))).toArray⟩ : ByteArray) = B := by
                  apply ByteArray.ext
                  rw [← hB2]
                rw [hBe] at hT2
                have HT2 := fun w hG => Lib.hid (tokens_new (s := B) (by omega) hT2 hyl w hG)
                have HXY := Lib.hid (core_toksR (HXT.out.trans hy.symm) s.size B.size)
                have HXL := HQ
                have HYL := Lib.hid hyl
                clear hall hB2 hT2 hy hyl hBe hgne hB hje
                have hkb := hk3.then hk
                go_wp2_with fail
                refine (HT2 _ (HG.out.keep hkb)).out.mono ?_
                rintro e w5 ⟨⟨g', cp', rfl, hN'⟩, hk6⟩
                have hk7 := hkb.then hk6
                have hgn' := Nat.le_trans hkb.size hN'.new
                have hcg' := hN'.cap
                have hcr' := hN'.room
                have hne : g ≠ g' := by
                  have h3 := hk.size
                  have h4 := hN'.new
                  omega
                have EQ := run_eqIn_fault
                have GD := fault_guard
                go_wp2_with fail
                obtain ⟨w6, hw6⟩ : ∃ w6, w6 = w5.alloc (.cells #[.int .i64 0, .int .i64 0] 30 (0, 0)) := ⟨_, rfl⟩
                have ha6 : Keeps [] w5 w6 := by rw [hw6]; exact (Keeps.refl [] w5).alloc _
                have hk8 := hk7.then ha6
                have hk36 : Keeps [] w3 w6 := (hk.then hk6).then ha6
                have HTX := Lib.hid (TokFrom.of (HS.out.keep hk36) 0)
                have HTY := Lib.hid (TokFrom.of (hN'.is.keep ha6) 0)
                have hfx : ∀ o, w6.frozen? ⟨g, o, none⟩ = false := fun o => by
                  rw [World.frozen?_of_block (hk36.block g hgb (by simp))]; exact HFX.out o
                have hfy : ∀ o, w6.frozen? ⟨g', o, none⟩ = false := fun o => by
                  rw [World.frozen?_of_block (ha6.block g' hN'.lt (by simp))]; exact hN'.free o
                rw [← hw6]
                clear hw6 ha6 hk36 hk7 hk6 hkb hk hN' HT2 EQ GD
                try rw [show ((q : Int) + 1) = ((q + 1 : Nat) : Int) from by omega]
                obtain ⟨r, hr⟩ : ∃ r, r = q + 1 := ⟨_, rfl⟩
                have HR := Lib.hid hr
                rw [← hr] at hcg hcg' ⊢
                clear hr
                go_loopw [95] (fun i wr => ∃ k : Nat, k ≤ r ∧ i = .int .i64 k ∧ Hid (TokFrom wr g k (toksR xs s.size)) ∧ Hid (TokFrom wr g' k (toksR ys B.size)) ∧ Hid ((∀ o, wr.frozen? ⟨g, o, none⟩ = false) ∧ ∀ o, wr.frozen? ⟨g', o, none⟩ = false) ∧ Keeps [] w wr) (fun i _ => r - (intOf i).toNat)
                case atStart => exact ⟨0, Nat.zero_le _, rfl, HTX, HTY, Lib.hid ⟨hfx, hfy⟩, hk8⟩
                case round =>
                  clear hfx hfy hk8 HTX HTY
                  obtain ⟨k, hkn, rfl, hX, hY, hF, hk⟩ := hrel
                  by_cases hlt : k < r
                  · have d1 : decide ((k : Int) < (r : Int)) = true := by simp; omega
                    have l1 : k < (toksR xs s.size).length := by rw [toksR_length, HXL.out, ← HR.out]; exact hlt
                    have l2 : k < (toksR ys B.size).length := by rw [toksR_length, HYL.out, ← HR.out]; exact hlt
                    obtain ⟨x, hx⟩ : ∃ x, (toksR xs s.size)[k]? = some x := ⟨_, List.getElem?_eq_getElem l1⟩
                    obtain ⟨y, hy⟩ : ∃ y, (toksR ys B.size)[k]? = some y := ⟨_, List.getElem?_eq_getElem l2⟩
                    obtain ⟨e0, e1, e2⟩ := core_at HXY.out hx hy
                    obtain ⟨w7, hw7, ⟨c0, c1, c2, c3⟩, ⟨f0, f1, f2, f3⟩, hX2, hY2⟩ := strike hne hX.out hY.out hx hy
                    have sx := (hX.out k x (Nat.le_refl _) hx).2.2.2
                    have sy := (hY.out k y (Nat.le_refl _) hy).2.2.2
                    have zx := hF.out.1 (k * 4 + 3)
                    have zy := hF.out.2 (k * 4 + 3)
                    have hf2 : (∀ o, w7.frozen? ⟨g, o, none⟩ = false) ∧ ∀ o, w7.frozen? ⟨g', o, none⟩ = false := by
                      rw [hw7]
                      simp only [World.frozen?_setCell]
                      exact hF.out
                    have hk7 : Keeps [] w w7 := by
                      rw [hw7]
                      exact (hk.setCell (.inr hgn) _).setCell (.inr hgn') _
                    have HX2 := Lib.hid hX2
                    have HY2 := Lib.hid hY2
                    have HF2 := Lib.hid hf2
                    simp only [Nat.zero_add] at c0 c1 c2 c3 f0 f1 f2 f3 sx sy hw7
                    rw [e0] at c0
                    rw [e1] at c1
                    rw [e2] at c2
                    clear hX2 hY2 hf2 e0 e1 e2 hx hy l1 l2 hX hY hF
                    have ho : ((wr.setCell ⟨g, k * 4 + 3, none⟩ (.int .i64 0)).cell? ⟨g', k * 4 + 3, none⟩) = some (.int .i64 y.at_) := set_miss sy (.inl hne.symm)
                    go_wp2_with fail
                    rw [← hw7]
                    clear hw7 ho sx sy zx zy
                    have E := run_eqIn_tok w7
                    have G := tok_guard
                    repeat (go_quiet (fail); try go_wp2_with fail)
                    exact ⟨⟨k + 1, by omega, by simp, HX2, HY2, HF2, hk7.drewN _⟩, by simp only [intOf]; omega⟩
                  · have d1 : decide ((k : Int) < (r : Int)) = false := by simp; omega
                    have hkw := hk
                    clear hX hY hF hk
                    go_wp2_with fail
                    go_returns
                    exact ⟨rfl, hkw⟩

end Go.Proofs.YtfoeadiejcheiaaDoor
