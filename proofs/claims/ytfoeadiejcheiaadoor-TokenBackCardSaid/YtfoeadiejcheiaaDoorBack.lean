/- TokenBack, walked. Conditions: those of each theorem. -/
import Derived.Test.YtfoeadiejcheiaaDoorBackB
namespace Go.Proofs.YtfoeadiejcheiaaDoor
open Go.RowKit

set_option maxHeartbeats 8000000 in
set_option maxRecDepth 100000 in
theorem tokenBack_any (s : ByteArray) (l : List TokR) (v : Value) (w : World) (hG : Glob w) (hok : ∀ x ∈ l, x.ok) (hv : ArgTok w v l) (hl : l.length * 40 ≤ 140737488355328) :
    Calls Tryd.prog 4 #[.string s, v] w fun e w' => e = .returned (.bool true) ∧ Keeps [] w w' := by
  have hk0 := Keeps.refl [] w
  have HG := Lib.hid hG
  have HV := Lib.hid hv
  have HO := Lib.hid hok
  have HWk := fun w hG => Lib.hid (works_any w hG)
  obtain ⟨ao, cap, rfl, _, hp⟩ := hv
  have HP := Lib.hid hp
  obtain ⟨n, hnl⟩ : ∃ n, l.length = n := ⟨_, rfl⟩
  rw [hnl] at HV
  rw [hnl] at hl ⊢
  have HL := Lib.hid hnl
  clear hG hok hp hnl
  rcases tok_split s with hbad | ⟨hsz, xs, hT⟩
  · have HB := fun w hG => Lib.hid (tokens_fault hbad w hG)
    clear hbad
    go_enter Tryd.func4, Tryd.ntmps4
    go_wp2_with fail
    refine (HWk _ (HG.out.keep hk0)).out.mono ?_
    rintro e w1 ⟨rfl, hk1⟩
    go_wp2_with fail
    refine (HB _ (HG.out.keep hk1)).out.mono ?_
    rintro e w2 ⟨⟨p, c, rfl, hc⟩, hk2⟩
    have hkw := (hk1.then hk2).alloc (.cells #[.int .i64 p, .int .i64 c] 30 (0, 0))
    have E := run_eqIn_fault
    have G := fault_guard
    have d0 : ((p == 0) && (c == 0)) = false := by rw [hc]; simp
    clear hk1 hk2 hc
    go_wp2_with fail
    generalize (w2.alloc (.cells #[.int .i64 p, .int .i64 c] 30 (0, 0))) = w3 at *
    clear E G d0 HB HWk
    cases hJ : joinM l with
    | error c =>
      have d5 := joinM_code hJ
      refine (join_bad hJ w3 (HG.out.keep hkw) HO.out (HV.out.keep hkw)).mono ?_
      rintro e w5 ⟨rfl, hk5⟩
      clear hJ
      go_wp2_with fail
      go_returns
      exact ⟨rfl, hkw.then hk5⟩
    | ok b =>
      obtain ⟨ts, l0, hb, hts, hco, hn, hbl, hor⟩ := joinM_ok hJ
      obtain ⟨ys, hT2, hy⟩ := toks_join hts hn
      rw [← hb] at hT2
      have hcore := back_core hco hy b.length hor
      have hyn : ys.length = l0.length := by
        have e1 := congrArg List.length hy
        have e2 := congrArg List.length hco
        simp only [List.length_map] at e1 e2
        omega
      refine (join_fine hJ w3 (HG.out.keep hkw) HO.out (HV.out.keep hkw)).mono ?_
      rintro e w5 ⟨rfl, hk5⟩
      have hkc := hkw.then hk5
      have hsz2 : (⟨b.toArray⟩ : ByteArray).size = b.length := by simp [ByteArray.size]
      have HKEY := Lib.hid (core_pre hcore)
      have HT2 := fun w hG => Lib.hid (tokens_new (s := ⟨b.toArray⟩) (by rw [hsz2]; omega) hT2 hyn w hG)
      rw [hsz2] at HT2
      have HJ := Lib.hid hJ
      have HOR := Lib.hid hor
      have HNN := Lib.hid hn
      clear hJ hb hts hco hT2 hy hcore hyn hsz2 hor hn
      obtain ⟨bs, hbs⟩ : ∃ bs : ByteArray, bs = ⟨b.toArray⟩ := ⟨_, rfl⟩
      rw [← hbs] at HT2
      rw [← hbs]
      clear hbs
      go_wp2_with fail
      refine (HT2 w5 (HG.out.keep hkc)).out.mono ?_
      rintro e w6 ⟨⟨gy, cpy, rfl, hNy⟩, hk6⟩
      have hkd := hkc.then hk6
      have HNy := Lib.hid hNy
      have E := run_eqIn_fault
      have G := fault_guard
      clear hNy hk6 hk5
      by_cases hne : l = []
      · have hl0 : l0.length = 0 := by
          rcases HOR.out with ⟨h, _⟩ | ⟨x, h, _⟩
          · rw [h, hne]; rfl
          · rw [hne] at h; simp at h
        have hn0 : n = 0 := by rw [← HL.out, hne]; rfl
        rw [hl0] at HNy
        rw [hl0, hn0]
        have hcy := HNy.out.cap
        have hcr := HNy.out.room
        clear hl0 hn0 hne
        go_wp2_with fail
        go_loopw [128] (fun i wr => i = .int .i64 0 ∧ Keeps [] w wr) (fun _ _ => 0)
        case atStart => exact ⟨rfl, hkd.alloc _⟩
        case round =>
          obtain ⟨rfl, hk⟩ := hrel
          go_wp2_with fail
          go_returns
          exact ⟨rfl, hk⟩
      · obtain ⟨m, hm⟩ : ∃ m, n = m + 1 := ⟨n - 1, by have := List.length_pos_iff.2 hne; have := HL.out; omega⟩
        obtain ⟨x, hx⟩ : ∃ x, l[m]? = some x := ⟨l[m]'(by rw [HL.out]; omega), List.getElem?_eq_getElem _⟩
        obtain ⟨bk, o, rfl, hsl, hcl, hcr⟩ := HP.out hne
        obtain ⟨z0, z1, z2, z3⟩ := (hsl.keep (hkd.alloc (.cells #[.int .i64 0, .int .i64 0] 30 (0, 0)))) m x hx
        have q1 : IntKind.i64.wrap (((m + 1 : Nat) : Int) - 1) = (m : Int) := (IntWalk.i64_in _ (by omega)).trans (by omega)
        have hm4 : m ≤ 3518437208884 := by omega
        have HM := Lib.hid hm
        have HSL := Lib.hid hsl
        clear hsl
        rcases HOR.out with ⟨hl0, hkd0⟩ | ⟨y, hl0, hy0⟩
        · have d6 : (x.kind != 0) = true := by
            have h1 : l.getLast? = some x := by rw [List.getLast?_eq_getElem?, HL.out, hm, Nat.add_sub_cancel]; exact hx
            simpa using hkd0 x h1
          have hn0 : l0.length = m + 1 := by rw [hl0, HL.out, hm]
          rw [hn0] at HNy
          rw [hn0, hm]
          have hcy := HNy.out.cap
          have hcyr := HNy.out.room
          clear hx hl0 hkd0 hn0 HOR HJ HT2 hne hm
          go_wp2_with fail
          clear z0 z1 z2 z3
          obtain ⟨w7, hw7⟩ : ∃ w7, w7 = w6.alloc (.cells #[.int .i64 0, .int .i64 0] 30 (0, 0)) := ⟨_, rfl⟩
          have hke : Keeps [] w w7 := by rw [hw7]; exact hkd.alloc _
          have HSY := Lib.hid (HNy.out.is.keep (show Keeps [] w6 w7 by rw [hw7]; exact (Keeps.refl [] _).alloc _))
          have HSX := Lib.hid (HSL.out.keep hke)
          rw [← hw7]
          clear hw7 HNy HSL hkd hkc hkw
          try rw [show ((m : Int) + 1) = ((m + 1 : Nat) : Int) from by omega]
          rw [← HM.out]
          rw [← HM.out] at hcy
          rw [HL.out] at hcl
          go_loopw [128] (fun i wr => ∃ k : Nat, k ≤ n ∧ i = .int .i64 k ∧ Keeps [] w7 wr) (fun i _ => n - (intOf i).toNat)
          case atStart => exact ⟨0, Nat.zero_le _, rfl, Keeps.refl _ _⟩
          case round =>
            obtain ⟨k, hkn, rfl, hk⟩ := hrel
            by_cases hlt : k < n
            · have d1 : decide ((k : Int) < (n : Int)) = true := by simp; omega
              obtain ⟨y, y', h1, h2, e0, e1, e2⟩ := HKEY.out k (by rw [HL.out]; exact hlt)
              obtain ⟨c0, c1, c2, c3⟩ := (HSY.out.keep hk) k y h1
              obtain ⟨f0, f1, f2, f3⟩ := (HSX.out.keep hk) k y' h2
              simp only [Nat.zero_add] at c0 c1 c2
              rw [e0] at c0
              rw [e1] at c1
              rw [e2] at c2
              clear h1 h2 e0 e1 e2 c3 f3
              go_wp2_with fail
              have b0 : (y'.kind != y'.kind) = false := by simp
              have b1 : (y'.s.toList != y'.s.toList) = false := by simp
              have b2 : (y'.n != y'.n) = false := by simp
              repeat (go_quiet (fail); try go_wp2_with fail)
              exact ⟨⟨k + 1, by omega, by simp, hk.drewN _⟩, by simp only [intOf]; omega⟩
            · have hke2 : k = n := by omega
              have d1 : decide ((k : Int) < (n : Int)) = false := by simp; omega
              go_wp2_with fail
              go_returns
              exact ⟨rfl, hke.then hk⟩
        · have d6 : (x.kind != 0) = false := by
            have h1 : l[m]? = some y := by
              have h2 : l0.length = m := by
                have h3 := congrArg List.length hl0
                rw [HL.out] at h3
                simp at h3
                omega
              rw [hl0, ← h2]
              simp
            rw [hx] at h1
            cases h1
            simp only [coreR, Prod.mk.injEq] at hy0
            rw [hy0.1]
            rfl
          have hn0 : l0.length = m := by
            have h3 := congrArg List.length hl0
            rw [HL.out] at h3
            simp at h3
            omega
          rw [hn0] at HNy
          rw [hn0, hm]
          have hcy := HNy.out.cap
          have hcyr := HNy.out.room
          clear hx hl0 hy0 hn0 HOR HJ HT2 hne hm
          go_wp2_with fail
          clear z0 z1 z2 z3
          obtain ⟨w7, hw7⟩ : ∃ w7, w7 = w6.alloc (.cells #[.int .i64 0, .int .i64 0] 30 (0, 0)) := ⟨_, rfl⟩
          have hke : Keeps [] w w7 := by rw [hw7]; exact hkd.alloc _
          have HSY := Lib.hid (HNy.out.is.keep (show Keeps [] w6 w7 by rw [hw7]; exact (Keeps.refl [] _).alloc _))
          have HSX := Lib.hid (HSL.out.keep hke)
          rw [← hw7]
          clear hw7 HNy HSL hkd hkc hkw
          try rw [show ((m : Int) + 1) = ((m + 1 : Nat) : Int) from by omega]
          rw [← HM.out]
          rw [HL.out] at hcl
          go_loopw [128] (fun i wr => ∃ k : Nat, k ≤ n ∧ i = .int .i64 k ∧ Keeps [] w7 wr) (fun i _ => n - (intOf i).toNat)
          case atStart => exact ⟨0, Nat.zero_le _, rfl, Keeps.refl _ _⟩
          case round =>
            obtain ⟨k, hkn, rfl, hk⟩ := hrel
            by_cases hlt : k < n
            · have d1 : decide ((k : Int) < (n : Int)) = true := by simp; omega
              obtain ⟨y, y', h1, h2, e0, e1, e2⟩ := HKEY.out k (by rw [HL.out]; exact hlt)
              obtain ⟨c0, c1, c2, c3⟩ := (HSY.out.keep hk) k y h1
              obtain ⟨f0, f1, f2, f3⟩ := (HSX.out.keep hk) k y' h2
              simp only [Nat.zero_add] at c0 c1 c2
              rw [e0] at c0
              rw [e1] at c1
              rw [e2] at c2
              clear h1 h2 e0 e1 e2 c3 f3
              go_wp2_with fail
              have b0 : (y'.kind != y'.kind) = false := by simp
              have b1 : (y'.s.toList != y'.s.toList) = false := by simp
              have b2 : (y'.n != y'.n) = false := by simp
              repeat (go_quiet (fail); try go_wp2_with fail)
              exact ⟨⟨k + 1, by omega, by simp, hk.drewN _⟩, by simp only [intOf]; omega⟩
            · have hke2 : k = n := by omega
              have d1 : decide ((k : Int) < (n : Int)) = false := by simp; omega
              go_wp2_with fail
              go_returns
              exact ⟨rfl, hke.then hk⟩

  · obtain ⟨q, hq⟩ : ∃ q, xs.length = q := ⟨_, rfl⟩
    have HT1 := fun w hG => Lib.hid (tokens_new hsz hT hq w hG)
    have HOK := Lib.hid (toksR_ok hT s.size)
    obtain ⟨ts, hts, hxt, htn, hj1⟩ := join_toks hT s.size
    have hxl : xs.length = ts.length := by have := congrArg List.length hxt; simpa using this
    have hq4 : q ≤ 4096 := by omega
    by_cases hbig : 262144 < (joinW (ts.map (·.1))).length
    · rw [if_pos hbig] at hj1
      have HJ1 := fun (v : Value) w (hG : Glob w) (h : ArgTok w v (toksR xs s.size)) => Lib.hid (join_bad hj1 w hG HOK.out h)
      clear hT hq hts hxt htn hj1 hxl hbig HOK
      go_enter Tryd.func4, Tryd.ntmps4
      go_wp2_with fail
      refine (HWk _ (HG.out.keep hk0)).out.mono ?_
      rintro e w1 ⟨rfl, hk1⟩
      go_wp2_with fail
      refine (HT1 _ (HG.out.keep hk1)).out.mono ?_
      rintro e w2 ⟨⟨g, cp, rfl, hN⟩, hk2⟩
      have hkw := (hk1.then hk2).alloc (.cells #[.int .i64 0, .int .i64 0] 30 (0, 0))
      have HA := Lib.hid (hN.arg.keep ((Keeps.refl [] w2).alloc (.cells #[.int .i64 0, .int .i64 0] 30 (0, 0))))
      have E := run_eqIn_fault
      have G := fault_guard
      clear hk1 hk2 hN
      go_wp2_with fail
      refine (HJ1 _ _ (HG.out.keep hkw) HA.out).out.mono ?_
      rintro e w4 ⟨rfl, hk4⟩
      go_wp2_with fail
      go_returns
      exact ⟨rfl, hkw.then hk4⟩
    · rw [if_neg hbig] at hj1
      obtain ⟨ys, hT2, hy⟩ := toks_join hts htn
      have hyl : ys.length = q := by
        have := congrArg List.length hy
        simp at this
        omega
      obtain ⟨b, hb⟩ : ∃ b, joinW (ts.map (·.1)) = b := ⟨_, rfl⟩
      rw [hb] at hj1 hT2 hbig
      have hsz2 : (⟨b.toArray⟩ : ByteArray).size = b.length := by simp [ByteArray.size]
      have HJ1 := fun (v : Value) w (hG : Glob w) (h : ArgTok w v (toksR xs s.size)) => Lib.hid (join_fine hj1 w hG HOK.out h)
      have HT2 := fun w hG => Lib.hid (tokens_new (s := ⟨b.toArray⟩) (by rw [hsz2]; omega) hT2 hyl w hG)
      rw [hsz2] at HT2
      have HXY := Lib.hid (core_toksR (hxt.trans hy.symm) s.size b.length)
      have HXL := Lib.hid hq
      have HYL := Lib.hid hyl
      clear hT hq hts hxt htn hj1 hxl hbig HOK hT2 hy hyl hb hsz2
      obtain ⟨bs1, hbs1⟩ : ∃ bs1 : ByteArray, bs1 = ⟨b.toArray⟩ := ⟨_, rfl⟩
      rw [← hbs1] at HT2 HJ1
      clear hbs1
      go_enter Tryd.func4, Tryd.ntmps4
      go_wp2_with fail
      refine (HWk _ (HG.out.keep hk0)).out.mono ?_
      rintro e w1 ⟨rfl, hk1⟩
      go_wp2_with fail
      refine (HT1 _ (HG.out.keep hk1)).out.mono ?_
      rintro e w2 ⟨⟨g, cp, rfl, hN⟩, hk2⟩
      have hkw := (hk1.then hk2).alloc (.cells #[.int .i64 0, .int .i64 0] 30 (0, 0))
      have ha1 := (Keeps.refl [] w2).alloc (.cells #[.int .i64 0, .int .i64 0] 30 (0, 0))
      have HA := Lib.hid (hN.arg.keep ha1)
      have hk02 := hk1.then hk2
      have hgn := Nat.le_trans hk1.size hN.new
      have hcg := hN.cap
      have hcr := hN.room
      have E := run_eqIn_fault
      have G := fault_guard
      go_wp2_with fail
      refine (HJ1 _ _ (HG.out.keep hkw) HA.out).out.mono ?_
      rintro e w4 ⟨rfl, hk4⟩
      have hk5 := hkw.then hk4
      clear hk1 hk2 HJ1 HWk HA
      go_wp2_with fail
      refine (HT2 _ (HG.out.keep hk5)).out.mono ?_
      rintro e w5 ⟨⟨g', cp', rfl, hN'⟩, hk6⟩
      have hk7 := hk5.then hk6
      have hgn' := Nat.le_trans hk5.size hN'.new
      have hcg' := hN'.cap
      have hcr' := hN'.room
      have hne : g ≠ g' := by
        have h1 := hN.lt
        have h2 := ha1.size
        have h3 := hk4.size
        have h4 := hN'.new
        omega
      go_wp2_with fail
      obtain ⟨w6, hw6⟩ : ∃ w6, w6 = w5.alloc (.cells #[.int .i64 0, .int .i64 0] 30 (0, 0)) := ⟨_, rfl⟩
      have ha6 : Keeps [] w5 w6 := by rw [hw6]; exact (Keeps.refl [] w5).alloc _
      have hk8 := hk7.then ha6
      have hk28 : Keeps [] w2 w6 := (((ha1.then hk4).then hk6)).then ha6
      have HTX := Lib.hid (TokFrom.of (hN.is.keep hk28) 0)
      have HTY := Lib.hid (TokFrom.of (hN'.is.keep ha6) 0)
      have hfx : ∀ o, w6.frozen? ⟨g, o, none⟩ = false := fun o => by
        rw [World.frozen?_of_block (hk28.block g hN.lt (by simp))]; exact hN.free o
      have hfy : ∀ o, w6.frozen? ⟨g', o, none⟩ = false := fun o => by
        rw [World.frozen?_of_block (ha6.block g' hN'.lt (by simp))]; exact hN'.free o
      rw [← hw6]
      clear hw6 ha6 hk28 hk7 hk6 hk5 hk4 hkw hk02 ha1 hN hN' HT1 HT2
      try rw [show ((q : Int) + 1) = ((q + 1 : Nat) : Int) from by omega]
      obtain ⟨r, hr⟩ : ∃ r, r = q + 1 := ⟨_, rfl⟩
      have HR := Lib.hid hr
      rw [← hr] at hcg hcg' ⊢
      clear hr E G
      go_loopw [57] (fun i wr => ∃ k : Nat, k ≤ r ∧ i = .int .i64 k ∧ Hid (TokFrom wr g k (toksR xs s.size)) ∧ Hid (TokFrom wr g' k (toksR ys b.length)) ∧ Hid ((∀ o, wr.frozen? ⟨g, o, none⟩ = false) ∧ ∀ o, wr.frozen? ⟨g', o, none⟩ = false) ∧ Keeps [] w wr) (fun i _ => r - (intOf i).toNat)
      case atStart => exact ⟨0, Nat.zero_le _, rfl, HTX, HTY, Lib.hid ⟨hfx, hfy⟩, hk8⟩
      case round =>
        clear hfx hfy hk8 HTX HTY
        obtain ⟨k, hkn, rfl, hX, hY, hF, hk⟩ := hrel
        by_cases hlt : k < r
        · have d1 : decide ((k : Int) < (r : Int)) = true := by simp; omega
          have l1 : k < (toksR xs s.size).length := by rw [toksR_length, HXL.out, ← HR.out]; exact hlt
          have l2 : k < (toksR ys b.length).length := by rw [toksR_length, HYL.out, ← HR.out]; exact hlt
          obtain ⟨x, hx⟩ : ∃ x, (toksR xs s.size)[k]? = some x := ⟨_, List.getElem?_eq_getElem l1⟩
          obtain ⟨y, hy⟩ : ∃ y, (toksR ys b.length)[k]? = some y := ⟨_, List.getElem?_eq_getElem l2⟩
          obtain ⟨e0, e1, e2⟩ := core_at HXY.out hx hy
          obtain ⟨w7, hw7, ⟨c0, c1, c2, c3⟩, ⟨f0, f1, f2, f3⟩, hX2, hY2⟩ := strike hne hX.out hY.out hx hy
          have sx := (hX.out k x (Nat.le_refl _) hx).2.2.2
          have sy := (hY.out k y (Nat.le_refl _) hy).2.2.2
          have zx := hF.out.1 (k * 4 + 3)
          have zy := hF.out.2 (k * 4 + 3)
          have hf2 : (∀ o, w7.frozen? ⟨g, o, none⟩ = false) ∧ ∀ o, w7.frozen? ⟨g', o, none⟩ = false := by
            rw [hw7]
            simp only [World.frozen?_setCell]
            exact hF.out
          have hk7 : Keeps [] w w7 := by
            rw [hw7]
            exact (hk.setCell (.inr hgn) _).setCell (.inr hgn') _
          have HX2 := Lib.hid hX2
          have HY2 := Lib.hid hY2
          have HF2 := Lib.hid hf2
          simp only [Nat.zero_add] at c0 c1 c2 c3 f0 f1 f2 f3 sx sy hw7
          rw [e0] at c0
          rw [e1] at c1
          rw [e2] at c2
          clear hX2 hY2 hf2 e0 e1 e2 hx hy l1 l2 hX hY hF
          have ho : ((wr.setCell ⟨g, k * 4 + 3, none⟩ (.int .i64 0)).cell? ⟨g', k * 4 + 3, none⟩) = some (.int .i64 y.at_) := set_miss sy (.inl hne.symm)
          go_wp2_with fail
          rw [← hw7]
          clear hw7 ho sx sy zx zy
          have E := run_eqIn_tok w7
          have G := tok_guard
          repeat (go_quiet (fail); try go_wp2_with fail)
          exact ⟨⟨k + 1, by omega, by simp, HX2, HY2, HF2, hk7.drewN _⟩, by simp only [intOf]; omega⟩
        · have hke2 : k = r := by omega
          have d1 : decide ((k : Int) < (r : Int)) = false := by simp; omega
          have hkw := hk
          clear hX hY hF hk
          go_wp2_with fail
          clear d1 hlt hke2 hkn hgn hcg hcr hgn' hcg' hcr' hne HR HXY HXL HYL hq4 hsz
          have E := run_eqIn_fault
          have G := fault_guard
          clear E G
          cases hJ : joinM l with
          | error c =>
            have d5 := joinM_code hJ
            refine (join_bad hJ wr (HG.out.keep hkw) HO.out (HV.out.keep hkw)).mono ?_
            rintro e w5 ⟨rfl, hk5⟩
            clear hJ
            go_wp2_with fail
            go_returns
            exact ⟨rfl, hkw.then hk5⟩
          | ok b =>
            obtain ⟨ts, l0, hb, hts, hco, hn, hbl, hor⟩ := joinM_ok hJ
            obtain ⟨ys, hT2, hy⟩ := toks_join hts hn
            rw [← hb] at hT2
            have hcore := back_core hco hy b.length hor
            have hyn : ys.length = l0.length := by
              have e1 := congrArg List.length hy
              have e2 := congrArg List.length hco
              simp only [List.length_map] at e1 e2
              omega
            refine (join_fine hJ wr (HG.out.keep hkw) HO.out (HV.out.keep hkw)).mono ?_
            rintro e w5 ⟨rfl, hk5⟩
            have hkc := hkw.then hk5
            have hsz2 : (⟨b.toArray⟩ : ByteArray).size = b.length := by simp [ByteArray.size]
            have HKEY := Lib.hid (core_pre hcore)
            have HT2 := fun w hG => Lib.hid (tokens_new (s := ⟨b.toArray⟩) (by rw [hsz2]; omega) hT2 hyn w hG)
            rw [hsz2] at HT2
            have HJ := Lib.hid hJ
            have HOR := Lib.hid hor
            have HNN := Lib.hid hn
            clear hJ hb hts hco hT2 hy hcore hyn hsz2 hor hn
            obtain ⟨bs, hbs⟩ : ∃ bs : ByteArray, bs = ⟨b.toArray⟩ := ⟨_, rfl⟩
            rw [← hbs] at HT2
            rw [← hbs]
            clear hbs
            go_wp2_with fail
            refine (HT2 w5 (HG.out.keep hkc)).out.mono ?_
            rintro e w6 ⟨⟨gy, cpy, rfl, hNy⟩, hk6⟩
            have hkd := hkc.then hk6
            have HNy := Lib.hid hNy
            have E := run_eqIn_fault
            have G := fault_guard
            clear hNy hk6 hk5
            by_cases hne : l = []
            · have hl0 : l0.length = 0 := by
                rcases HOR.out with ⟨h, _⟩ | ⟨x, h, _⟩
                · rw [h, hne]; rfl
                · rw [hne] at h; simp at h
              have hn0 : n = 0 := by rw [← HL.out, hne]; rfl
              rw [hl0] at HNy
              rw [hl0, hn0]
              have hcy := HNy.out.cap
              have hcr := HNy.out.room
              clear hl0 hn0 hne
              go_wp2_with fail
              go_loopw [128] (fun i wr => i = .int .i64 0 ∧ Keeps [] w wr) (fun _ _ => 0)
              case atStart => exact ⟨rfl, hkd.alloc _⟩
              case round =>
                obtain ⟨rfl, hk⟩ := hrel
                go_wp2_with fail
                go_returns
                exact ⟨rfl, hk⟩
            · obtain ⟨m, hm⟩ : ∃ m, n = m + 1 := ⟨n - 1, by have := List.length_pos_iff.2 hne; have := HL.out; omega⟩
              obtain ⟨x, hx⟩ : ∃ x, l[m]? = some x := ⟨l[m]'(by rw [HL.out]; omega), List.getElem?_eq_getElem _⟩
              obtain ⟨bk, o, rfl, hsl, hcl, hcr⟩ := HP.out hne
              obtain ⟨z0, z1, z2, z3⟩ := (hsl.keep (hkd.alloc (.cells #[.int .i64 0, .int .i64 0] 30 (0, 0)))) m x hx
              have q1 : IntKind.i64.wrap (((m + 1 : Nat) : Int) - 1) = (m : Int) := (IntWalk.i64_in _ (by omega)).trans (by omega)
              have hm4 : m ≤ 3518437208884 := by omega
              have HM := Lib.hid hm
              have HSL := Lib.hid hsl
              clear hsl
              rcases HOR.out with ⟨hl0, hkd0⟩ | ⟨y, hl0, hy0⟩
              · have d6 : (x.kind != 0) = true := by
                  have h1 : l.getLast? = some x := by rw [List.getLast?_eq_getElem?, HL.out, hm, Nat.add_sub_cancel]; exact hx
                  simpa using hkd0 x h1
                have hn0 : l0.length = m + 1 := by rw [hl0, HL.out, hm]
                rw [hn0] at HNy
                rw [hn0, hm]
                have hcy := HNy.out.cap
                have hcyr := HNy.out.room
                clear hx hl0 hkd0 hn0 HOR HJ HT2 hne hm
                go_wp2_with fail
                clear z0 z1 z2 z3
                obtain ⟨w7, hw7⟩ : ∃ w7, w7 = w6.alloc (.cells #[.int .i64 0, .int .i64 0] 30 (0, 0)) := ⟨_, rfl⟩
                have hke : Keeps [] w w7 := by rw [hw7]; exact hkd.alloc _
                have HSY := Lib.hid (HNy.out.is.keep (show Keeps [] w6 w7 by rw [hw7]; exact (Keeps.refl [] _).alloc _))
                have HSX := Lib.hid (HSL.out.keep hke)
                rw [← hw7]
                clear hw7 HNy HSL hkd hkc hkw
                try rw [show ((m : Int) + 1) = ((m + 1 : Nat) : Int) from by omega]
                rw [← HM.out]
                rw [← HM.out] at hcy
                rw [HL.out] at hcl
                go_loopw [128] (fun i wr => ∃ k : Nat, k ≤ n ∧ i = .int .i64 k ∧ Keeps [] w7 wr) (fun i _ => n - (intOf i).toNat)
                case atStart => exact ⟨0, Nat.zero_le _, rfl, Keeps.refl _ _⟩
                case round =>
                  obtain ⟨k, hkn, rfl, hk⟩ := hrel
                  by_cases hlt : k < n
                  · have d1 : decide ((k : Int) < (n : Int)) = true := by simp; omega
                    obtain ⟨y, y', h1, h2, e0, e1, e2⟩ := HKEY.out k (by rw [HL.out]; exact hlt)
                    obtain ⟨c0, c1, c2, c3⟩ := (HSY.out.keep hk) k y h1
                    obtain ⟨f0, f1, f2, f3⟩ := (HSX.out.keep hk) k y' h2
                    simp only [Nat.zero_add] at c0 c1 c2
                    rw [e0] at c0
                    rw [e1] at c1
                    rw [e2] at c2
                    clear h1 h2 e0 e1 e2 c3 f3
                    go_wp2_with fail
                    have b0 : (y'.kind != y'.kind) = false := by simp
                    have b1 : (y'.s.toList != y'.s.toList) = false := by simp
                    have b2 : (y'.n != y'.n) = false := by simp
                    repeat (go_quiet (fail); try go_wp2_with fail)
                    exact ⟨⟨k + 1, by omega, by simp, hk.drewN _⟩, by simp only [intOf]; omega⟩
                  · have hke2 : k = n := by omega
                    have d1 : decide ((k : Int) < (n : Int)) = false := by simp; omega
                    go_wp2_with fail
                    go_returns
                    exact ⟨rfl, hke.then hk⟩
              · have d6 : (x.kind != 0) = false := by
                  have h1 : l[m]? = some y := by
                    have h2 : l0.length = m := by
                      have h3 := congrArg List.length hl0
                      rw [HL.out] at h3
                      simp at h3
                      omega
                    rw [hl0, ← h2]
                    simp
                  rw [hx] at h1
                  cases h1
                  simp only [coreR, Prod.mk.injEq] at hy0
                  rw [hy0.1]
                  rfl
                have hn0 : l0.length = m := by
                  have h3 := congrArg List.length hl0
                  rw [HL.out] at h3
                  simp at h3
                  omega
                rw [hn0] at HNy
                rw [hn0, hm]
                have hcy := HNy.out.cap
                have hcyr := HNy.out.room
                clear hx hl0 hy0 hn0 HOR HJ HT2 hne hm
                go_wp2_with fail
                clear z0 z1 z2 z3
                obtain ⟨w7, hw7⟩ : ∃ w7, w7 = w6.alloc (.cells #[.int .i64 0, .int .i64 0] 30 (0, 0)) := ⟨_, rfl⟩
                have hke : Keeps [] w w7 := by rw [hw7]; exact hkd.alloc _
                have HSY := Lib.hid (HNy.out.is.keep (show Keeps [] w6 w7 by rw [hw7]; exact (Keeps.refl [] _).alloc _))
                have HSX := Lib.hid (HSL.out.keep hke)
                rw [← hw7]
                clear hw7 HNy HSL hkd hkc hkw
                try rw [show ((m : Int) + 1) = ((m + 1 : Nat) : Int) from by omega]
                rw [← HM.out]
                rw [HL.out] at hcl
                go_loopw [128] (fun i wr => ∃ k : Nat, k ≤ n ∧ i = .int .i64 k ∧ Keeps [] w7 wr) (fun i _ => n - (intOf i).toNat)
                case atStart => exact ⟨0, Nat.zero_le _, rfl, Keeps.refl _ _⟩
                case round =>
                  obtain ⟨k, hkn, rfl, hk⟩ := hrel
                  by_cases hlt : k < n
                  · have d1 : decide ((k : Int) < (n : Int)) = true := by simp; omega
                    obtain ⟨y, y', h1, h2, e0, e1, e2⟩ := HKEY.out k (by rw [HL.out]; exact hlt)
                    obtain ⟨c0, c1, c2, c3⟩ := (HSY.out.keep hk) k y h1
                    obtain ⟨f0, f1, f2, f3⟩ := (HSX.out.keep hk) k y' h2
                    simp only [Nat.zero_add] at c0 c1 c2
                    rw [e0] at c0
                    rw [e1] at c1
                    rw [e2] at c2
                    clear h1 h2 e0 e1 e2 c3 f3
                    go_wp2_with fail
                    have b0 : (y'.kind != y'.kind) = false := by simp
                    have b1 : (y'.s.toList != y'.s.toList) = false := by simp
                    have b2 : (y'.n != y'.n) = false := by simp
                    repeat (go_quiet (fail); try go_wp2_with fail)
                    exact ⟨⟨k + 1, by omega, by simp, hk.drewN _⟩, by simp only [intOf]; omega⟩
                  · have hke2 : k = n := by omega
                    have d1 : decide ((k : Int) < (n : Int)) = false := by simp; omega
                    go_wp2_with fail
                    go_returns
                    exact ⟨rfl, hke.then hk⟩


end Go.Proofs.YtfoeadiejcheiaaDoor
