/- ExprTruths, walked. Conditions: those of each theorem. -/
import Derived.Test.YtefcmijobbgpbaaGreatDoorExTB
import Derived.Test.YtefcmijobbgpbaaGreatDoorExAR
namespace Go.Proofs.YtefcmijobbgpbaaGreatDoor
open Go.RowKit

theorem argOne {w : World} {v : Value} {l : List PartR} (h : ArgPart w v l) : ∀ (j : Nat) (v' : Value) (l' : List PartR), [v][j]? = some v' → [l][j]? = some l' → ArgPart w v' l'
  | 0, _, _, h1, h2 => by cases h1; cases h2; exact h
  | _ + 1, _, _, h1, _ => by simp at h1

theorem argTwo {w : World} {v u : Value} {l m : List PartR} (h : ArgPart w v l) (h' : ArgPart w u m) : ∀ (j : Nat) (v' : Value) (l' : List PartR), [v, u][j]? = some v' → [l, m][j]? = some l' → ArgPart w v' l'
  | 0, _, _, h1, h2 => by cases h1; cases h2; exact h
  | 1, _, _, h1, h2 => by cases h1; cases h2; exact h'
  | _ + 2, _, _, h1, _ => by simp at h1

theorem truthM_len {x : List PartR} (h : truthM x = true) : x.length ≤ 200 := by
  obtain ⟨t, hw, _⟩ := truthM_some h
  exact (wholeM_parts hw).2

/-- The five, and what is wanted of them. -/
def trZ (x y : List PartR) (k : Nat) : List PartR := [opP 13 :: x, opP 11 :: (x ++ y), opP 11 :: (y ++ x), opP 12 :: (x ++ y), opP 12 :: (y ++ x)].getD k []
def trW (a b : Bool) (k : Nat) : Bool := [!a, a && b, a && b, a || b, a || b].getD k false
def trV (v0 v1 v2 v3 v4 : Value) (k : Nat) : Value := [v0, v1, v2, v3, v4].getD k (.bool false)

theorem trZ_ok {x y : List PartR} (hx : ∀ p ∈ x, p.ok) (hy : ∀ p ∈ y, p.ok) (k : Nat) (hk : k < 5) : ∀ p ∈ trZ x y k, p.ok := by
  intro p hp
  have hc : k = 0 ∨ k = 1 ∨ k = 2 ∨ k = 3 ∨ k = 4 := by omega
  rcases hc with rfl | rfl | rfl | rfl | rfl <;> simp only [trZ, List.getD_cons_zero, List.getD_cons_succ, List.mem_cons, List.mem_append] at hp
  · rcases hp with rfl | hp
    · exact opP_ok 13
    · exact hx p hp
  · rcases hp with rfl | hp | hp
    · exact opP_ok 11
    · exact hx p hp
    · exact hy p hp
  · rcases hp with rfl | hp | hp
    · exact opP_ok 11
    · exact hy p hp
    · exact hx p hp
  · rcases hp with rfl | hp | hp
    · exact opP_ok 12
    · exact hx p hp
    · exact hy p hp
  · rcases hp with rfl | hp | hp
    · exact opP_ok 12
    · exact hy p hp
    · exact hx p hp

theorem tr_any {x y : List PartR} (ev : EvR) (hx : truthM x = true) (hy : truthM y = true) (hm : missM [] (stagesM x) = false) (hm' : missM [] (stagesM y) = false) (k : Nat) (hk : k < 5) (hz : truthM (trZ x y k) = true) :
    holdsB (trZ x y k) ev [] [] = trW (holdsB x ev [] []) (holdsB y ev [] []) k ∧ holdsC (trZ x y k) [] [] = 0 := by
  have hc : k = 0 ∨ k = 1 ∨ k = 2 ∨ k = 3 ∨ k = 4 := by omega
  rcases hc with rfl | rfl | rfl | rfl | rfl
  · exact truths_neg ev hx hz hm
  · exact truths_two (.inl rfl) ev hx hy hz hm hm'
  · obtain ⟨h1, h2⟩ := truths_two (.inl rfl) ev hy hx hz hm' hm
    exact ⟨h1.trans (Bool.and_comm _ _), h2⟩
  · exact truths_two (.inr rfl) ev hx hy hz hm hm'
  · obtain ⟨h1, h2⟩ := truths_two (.inr rfl) ev hy hx hz hm' hm
    exact ⟨h1.trans (Bool.or_comm _ _), h2⟩

def trCells (v0 v1 v2 v3 v4 : Value) (a b : Bool) : Array Value := #[v0, .bool (!a), v1, .bool (a && b), v2, .bool (b && a), v3, .bool (a || b), v4, .bool (b || a)]

theorem tr_cells {w : World} {B : Nat} {v0 v1 v2 v3 v4 : Value} {a b : Bool} {t : TypeId} {fr : Nat × Nat} (h : w.heap[B]? = some (.cells #[v0, .bool (trW a b 0), v1, .bool (trW a b 1), v2, .bool (trW a b 2), v3, .bool (trW a b 3), v4, .bool (trW a b 4)] t fr)) (k : Nat) (hk : k < 5) :
    w.cell? ⟨B, k * 2, none⟩ = some (trV v0 v1 v2 v3 v4 k) ∧ w.cell? ⟨B, k * 2 + 1, none⟩ = some (.bool (trW a b k)) := by
  have hc : k = 0 ∨ k = 1 ∨ k = 2 ∨ k = 3 ∨ k = 4 := by omega
  rcases hc with rfl | rfl | rfl | rfl | rfl <;> (simp only [World.cell?, h]; exact ⟨rfl, rfl⟩)

theorem tr_args {w : World} {v0 v1 v2 v3 v4 : Value} {x y : List PartR} (h0 : ArgPart w v0 (trZ x y 0)) (h1 : ArgPart w v1 (trZ x y 1)) (h2 : ArgPart w v2 (trZ x y 2)) (h3 : ArgPart w v3 (trZ x y 3)) (h4 : ArgPart w v4 (trZ x y 4)) (k : Nat) (hk : k < 5) : ArgPart w (trV v0 v1 v2 v3 v4 k) (trZ x y k) := by
  have hc : k = 0 ∨ k = 1 ∨ k = 2 ∨ k = 3 ∨ k = 4 := by omega
  rcases hc with rfl | rfl | rfl | rfl | rfl
  · exact h0
  · exact h1
  · exact h2
  · exact h3
  · exact h4

set_option maxHeartbeats 8000000 in
set_option maxRecDepth 100000 in
theorem exprTruths_any (x y : List PartR) (ev : EvR) (vx vy : Value) (w : World) (hG : GlobX w) (hokx : ∀ p ∈ x, p.ok) (hoky : ∀ p ∈ y, p.ok) (hAx : ArgPart w vx x) (hAy : ArgPart w vy y) :
    Calls Tryz.prog 7 #[vx, vy, .agg #[.string ev.key, .string ev.typ, .int .i64 ev.n0, .int .i64 ev.n1, .int .i64 ev.n2, .int .i64 ev.n3, .string ev.text]] w fun e w' => e = .returned (.bool true) ∧ Keeps [] w w' := by
  have hk0 := Keeps.refl [] w
  have HG := Lib.hid hG
  have HWk := fun w hG => Lib.hid (works_x w hG)
  have HAx := Lib.hid hAx
  have HAy := Lib.hid hAy
  have HT := fun l v w hG hok hA => Lib.hid (wholeLaw_any l v w hG hok hA)
  have HOx := Lib.hid hokx
  have HOy := Lib.hid hoky
  obtain ⟨o1, ho1⟩ : ∃ o1, o1 = Obj.cells (evRow ev) 37 (0, 0) := ⟨_, rfl⟩
  have hk1 := hk0.alloc o1
  have hb1 : (w.alloc o1).heap[w.heap.size]? = some o1 := heap_alloc_new w o1
  rw [ho1] at hb1
  have HB1 := Lib.hid hb1
  obtain ⟨aox, cpx, rfl, _, _⟩ := hAx
  obtain ⟨aoy, cpy, rfl, _, _⟩ := hAy
  obtain ⟨nx, hnx⟩ : ∃ n, x.length = n := ⟨_, rfl⟩
  obtain ⟨ny, hny⟩ : ∃ n, y.length = n := ⟨_, rfl⟩
  rw [hnx] at HAx ⊢
  rw [hny] at HAy ⊢
  have HNX := Lib.hid hnx
  have HNY := Lib.hid hny
  subst ho1
  clear hG hokx hoky hb1 hnx hny
  go_enter Tryz.func7, Tryz.ntmps7
  go_wp2_with fail
  refine (HWk _ (HG.out.keep hk1)).out.mono ?_
  rintro e w2 ⟨rfl, hk2⟩
  have hk2' := hk1.then hk2
  go_wp2_with fail
  refine (HT x _ _ (HG.out.keep hk2') HOx.out (HAx.out.keep hk2')).out.mono ?_
  rintro e w3 ⟨rfl, hk3⟩
  have hk3' := hk2'.then hk3
  cases hx : truthM x with
  | false =>
    clear HWk HT
    go_wp2_with fail
    go_returns
    exact ⟨rfl, hk3'⟩
  | true =>
    have HX := Lib.hid hx
    clear hx HWk
    go_wp2_with fail
    refine (HT y _ _ (HG.out.keep hk3') HOy.out (HAy.out.keep hk3')).out.mono ?_
    rintro e w4 ⟨rfl, hk4⟩
    have hk4' := hk3'.then hk4
    cases hy : truthM y with
    | false =>
      clear HT
      go_wp2_with fail
      go_returns
      exact ⟨rfl, hk4'⟩
    | true =>
      have HY := Lib.hid hy
      have hevb := hk4.heap (hk3.heap (hk2.heap HB1.out (by simp)) (by simp)) (by simp)
      have HEV := Lib.hid hevb
      obtain ⟨e0, e1, e2, e3, e4, e5, e6⟩ := ev_block hevb
      have HH := fun l v vn vl w hG hok hA hn hl => Lib.hid (holds_any l ev [] [] v vn vl w hG hok hA hn hl)
      have hnil : ∀ W : World, ArgStr W (.slice none 0 0) [] := fun _ => ⟨none, 0, rfl, fun _ => ⟨rfl, rfl⟩, fun h => absurd rfl h⟩
      have hnile : ∀ W : World, ArgEv W (.slice none 0 0) [] := fun _ => ⟨none, 0, rfl, fun _ => ⟨rfl, rfl⟩, fun h => absurd rfl h⟩
      clear hy hk2 hk3 hk4 hk2' hk3' hevb HB1 hk1
      go_wp2_with fail
      refine (HH x _ _ _ _ (HG.out.keep hk4') HOx.out (HAx.out.keep hk4') (hnil _) (hnile _)).out.mono ?_
      rintro e w5 ⟨rfl, hk5⟩
      have hk5' := hk4'.then hk5
      have hevb := hk5.heap HEV.out (by simp)
      have HEV5 := Lib.hid hevb
      obtain ⟨e0, e1, e2, e3, e4, e5, e6⟩ := ev_block hevb
      clear hevb HEV
      go_wp2_with fail
      refine (HH y _ _ _ _ (HG.out.keep hk5') HOy.out (HAy.out.keep hk5') (hnil _) (hnile _)).out.mono ?_
      rintro e w6 ⟨rfl, hk6⟩
      have hk6' := hk5'.then hk6
      have hevb := hk6.heap HEV5.out (by simp)
      have HEV6 := Lib.hid hevb
      clear hevb HEV5 e0 e1 e2 e3 e4 e5 e6 hk5 hk6 hk5' hk4'
      obtain ⟨a, ha⟩ : ∃ a, holdsB x ev [] [] = a := ⟨_, rfl⟩
      obtain ⟨b, hb⟩ : ∃ b, holdsB y ev [] [] = b := ⟨_, rfl⟩
      have HAB := Lib.hid (And.intro ha hb)
      rw [ha, hb]
      clear ha hb
      rcases holdsC_cases HX.out with ⟨hcx, hmx⟩ | hcx
      · rw [hcx]
        rcases holdsC_cases HY.out with ⟨hcy, hmy⟩ | hcy
        · rw [hcy]
          have HTR := Lib.hid (fun k hk hz => tr_any ev HX.out HY.out hmx hmy k hk hz)
          rw [HAB.out.1, HAB.out.2] at HTR
          have HLX := Lib.hid (truthM_len HX.out)
          have HLY := Lib.hid (truthM_len HY.out)
          clear hcx hcy hmx hmy
          have HJ := fun op ls vs B n w h1 h2 h3 h4 h5 h6 => Lib.hid (joined_any op ls vs B n w h1 h2 h3 h4 h5 h6)
          rcases a with _ | _ <;> rcases b with _ | _
          · have hk66 := Keeps.refl [] w6
            go_wp2_with fail
            refine (HJ 13 [x] [_] _ 1 _ rfl rfl (heap_alloc_new _ _) (by decide) (by have h1 := HLX.out; have h2 := HLY.out; simp; omega) (argOne (HAx.out.keep (hk6'.alloc _)))).out.mono ?_
            rintro e j1 ⟨⟨ao1, q1, cp1, rfl, hq1, hown1⟩, hkj1⟩
            have hk6_1 := (hk66.alloc _).then hkj1
            have hj1 := (hk6'.alloc _).then hkj1
            have HA1 := Lib.hid (own_parts hown1 hq1)
            clear hq1 hown1
            go_wp2_with fail
            refine (HJ 11 [x, y] [_, _] _ 2 _ rfl rfl (heap_alloc_new _ _) (by decide) (by have h1 := HLX.out; have h2 := HLY.out; simp; omega) (argTwo (HAx.out.keep (hj1.alloc _)) (HAy.out.keep (hj1.alloc _)))).out.mono ?_
            rintro e j2 ⟨⟨ao2, q2, cp2, rfl, hq2, hown2⟩, hkj2⟩
            have hk6_2 := (hk6_1.alloc _).then hkj2
            have hj2 := (hj1.alloc _).then hkj2
            have HA2 := Lib.hid (own_parts hown2 hq2)
            have HA1 := Lib.hid ((HA1.out.keep ((Keeps.refl [] j1).alloc _)).keep hkj2)
            clear hq2 hown2 hkj1 hj1
            go_wp2_with fail
            refine (HJ 11 [y, x] [_, _] _ 2 _ rfl rfl (heap_alloc_new _ _) (by decide) (by have h1 := HLX.out; have h2 := HLY.out; simp; omega) (argTwo (HAy.out.keep (hj2.alloc _)) (HAx.out.keep (hj2.alloc _)))).out.mono ?_
            rintro e j3 ⟨⟨ao3, q3, cp3, rfl, hq3, hown3⟩, hkj3⟩
            have hk6_3 := (hk6_2.alloc _).then hkj3
            have hj3 := (hj2.alloc _).then hkj3
            have HA3 := Lib.hid (own_parts hown3 hq3)
            have HA1 := Lib.hid ((HA1.out.keep ((Keeps.refl [] j2).alloc _)).keep hkj3)
            have HA2 := Lib.hid ((HA2.out.keep ((Keeps.refl [] j2).alloc _)).keep hkj3)
            clear hq3 hown3 hkj2 hj2
            go_wp2_with fail
            refine (HJ 12 [x, y] [_, _] _ 2 _ rfl rfl (heap_alloc_new _ _) (by decide) (by have h1 := HLX.out; have h2 := HLY.out; simp; omega) (argTwo (HAx.out.keep (hj3.alloc _)) (HAy.out.keep (hj3.alloc _)))).out.mono ?_
            rintro e j4 ⟨⟨ao4, q4, cp4, rfl, hq4, hown4⟩, hkj4⟩
            have hk6_4 := (hk6_3.alloc _).then hkj4
            have hj4 := (hj3.alloc _).then hkj4
            have HA4 := Lib.hid (own_parts hown4 hq4)
            have HA1 := Lib.hid ((HA1.out.keep ((Keeps.refl [] j3).alloc _)).keep hkj4)
            have HA2 := Lib.hid ((HA2.out.keep ((Keeps.refl [] j3).alloc _)).keep hkj4)
            have HA3 := Lib.hid ((HA3.out.keep ((Keeps.refl [] j3).alloc _)).keep hkj4)
            clear hq4 hown4 hkj3 hj3
            go_wp2_with fail
            refine (HJ 12 [y, x] [_, _] _ 2 _ rfl rfl (heap_alloc_new _ _) (by decide) (by have h1 := HLX.out; have h2 := HLY.out; simp; omega) (argTwo (HAy.out.keep (hj4.alloc _)) (HAx.out.keep (hj4.alloc _)))).out.mono ?_
            rintro e j5 ⟨⟨ao5, q5, cp5, rfl, hq5, hown5⟩, hkj5⟩
            have hk6_5 := (hk6_4.alloc _).then hkj5
            have hj5 := (hj4.alloc _).then hkj5
            have HA5 := Lib.hid (own_parts hown5 hq5)
            have HA1 := Lib.hid ((HA1.out.keep ((Keeps.refl [] j4).alloc _)).keep hkj5)
            have HA2 := Lib.hid ((HA2.out.keep ((Keeps.refl [] j4).alloc _)).keep hkj5)
            have HA3 := Lib.hid ((HA3.out.keep ((Keeps.refl [] j4).alloc _)).keep hkj5)
            have HA4 := Lib.hid ((HA4.out.keep ((Keeps.refl [] j4).alloc _)).keep hkj5)
            clear hq5 hown5 hkj4 hj4
            go_wp2_with fail
            have hfl : [x].flatten = x ∧ [x, y].flatten = x ++ y ∧ [y, x].flatten = y ++ x := by simp
            rw [hfl.1] at HA1
            rw [hfl.2.1] at HA2 HA4
            rw [hfl.2.2] at HA3 HA5
            have HArgs := Lib.hid (fun k hk => tr_args HA1.out HA2.out HA3.out HA4.out HA5.out k hk)
            have HEV7 := Lib.hid (hk6_5.heap HEV6.out (by simp))
            clear hfl hkj5 hk6' HA1 HA2 HA3 HA4 HA5 HJ e0 e1 e2 e3 e4 e5 e6
            go_loopw [99] (fun i wr => ∃ k : Nat, k ≤ 5 ∧ i = .int .i64 k ∧ Hid (wr.heap[j5.heap.size]? = some (.cells #[.slice ao1 q1 cp1, .bool (trW false false 0), .slice ao2 q2 cp2, .bool (trW false false 1), .slice ao3 q3 cp3, .bool (trW false false 2), .slice ao4 q4 cp4, .bool (trW false false 3), .slice ao5 q5 cp5, .bool (trW false false 4)] 60 (0, 0))) ∧ Keeps [] j5 wr) (fun i _ => 5 - (intOf i).toNat)
            case atStart => exact ⟨0, Nat.zero_le _, rfl, Lib.hid (heap_alloc_new _ _), (Keeps.refl [] j5).alloc _⟩
            case round =>
              obtain ⟨k, hk5, rfl, hB7, hk⟩ := hrel
              by_cases hlt : k < 5
              · have d1 : decide ((k : Int) < 5) = true := by simp; omega
                obtain ⟨z0, z1⟩ := tr_cells hB7.out k hlt
                have HZA := Lib.hid (HArgs.out k hlt)
                have HZO := Lib.hid (trZ_ok HOx.out HOy.out k hlt)
                have HZR := Lib.hid (HTR.out k hlt)
                obtain ⟨wt, hwt⟩ : ∃ wt, trW false false k = wt := ⟨_, rfl⟩
                obtain ⟨z, hz⟩ : ∃ z, trZ x y k = z := ⟨_, rfl⟩
                obtain ⟨vz, hvz⟩ : ∃ vz, trV (.slice ao1 q1 cp1) (.slice ao2 q2 cp2) (.slice ao3 q3 cp3) (.slice ao4 q4 cp4) (.slice ao5 q5 cp5) k = vz := ⟨_, rfl⟩
                rw [hz] at HZA HZO HZR
                rw [hvz] at HZA z0
                rw [hwt] at HZR z1
                obtain ⟨aoz, cpz, rfl, _, _⟩ := HZA.out
                obtain ⟨nz, hnz⟩ : ∃ n, z.length = n := ⟨_, rfl⟩
                rw [hnz] at HZA z0
                clear hz hvz hwt hnz
                have hk8 := hk.alloc (.cells #[.slice aoz nz cpz, .bool wt] 60 (0, 0))
                have HTz := Lib.hid (wholeLaw_any z _ _ (HG.out.keep (hj5.then hk8)) HZO.out (HZA.out.keep hk8))
                have hb8 := heap_alloc_new wr (.cells #[.slice aoz nz cpz, .bool wt] 60 (0, 0))
                have HB8 := Lib.hid hb8
                clear hb8
                go_wp2_with fail
                refine HTz.out.mono ?_
                rintro e w9 ⟨rfl, hk9⟩
                have hk9' := hk8.then hk9
                cases htz : truthM z with
                | false =>
                  clear HTz HZR htz
                  go_wp2_with fail
                  exact ⟨⟨k + 1, by omega, by simp, Lib.hid (((Keeps.refl [] wr).alloc _ |>.then hk9).heap hB7.out (by simp)), hk9'⟩, by simp only [intOf]; omega⟩
                | true =>
                  obtain ⟨hvB, hvC⟩ := HZR.out htz
                  have HHz := Lib.hid (holds_any z ev [] [] _ _ _ w9 (HG.out.keep (hj5.then hk9')) HZO.out (HZA.out.keep hk9') (hnil _) (hnile _))
                  rw [hvB, hvC] at HHz
                  have hb8 := hk9.heap HB8.out (by simp)
                  have y0 : w9.cell? ⟨wr.heap.size, 0, none⟩ = some (.slice aoz nz cpz) := by simp only [World.cell?, hb8]; rfl
                  obtain ⟨e0, e1, e2, e3, e4, e5, e6⟩ := ev_block (hk9'.heap HEV7.out (by simp))
                  have HB9 := Lib.hid hb8
                  clear HTz HZR htz hvB hvC HB8 z0 z1 hb8
                  go_wp2_with fail
                  refine HHz.out.mono ?_
                  rintro e w10 ⟨rfl, hk10⟩
                  have hb9 := hk10.heap HB9.out (by simp)
                  have y1 : w10.cell? ⟨wr.heap.size, 1, none⟩ = some (.bool wt) := by simp only [World.cell?, hb9]; rfl
                  have d9 : (wt != wt) = false := by simp
                  clear hb9 HHz
                  go_wp2_with fail
                  exact ⟨⟨k + 1, by omega, by simp, Lib.hid ((((Keeps.refl [] wr).alloc _ |>.then hk9).then hk10).heap hB7.out (by simp)), hk9'.then hk10⟩, by simp only [intOf]; omega⟩
              · have hke : k = 5 := by omega
                have d1 : decide ((k : Int) < 5) = false := by simp; omega
                go_wp2_with fail
                go_returns
                exact ⟨rfl, hj5.then hk⟩
          · have hk66 := Keeps.refl [] w6
            go_wp2_with fail
            refine (HJ 13 [x] [_] _ 1 _ rfl rfl (heap_alloc_new _ _) (by decide) (by have h1 := HLX.out; have h2 := HLY.out; simp; omega) (argOne (HAx.out.keep (hk6'.alloc _)))).out.mono ?_
            rintro e j1 ⟨⟨ao1, q1, cp1, rfl, hq1, hown1⟩, hkj1⟩
            have hk6_1 := (hk66.alloc _).then hkj1
            have hj1 := (hk6'.alloc _).then hkj1
            have HA1 := Lib.hid (own_parts hown1 hq1)
            clear hq1 hown1
            go_wp2_with fail
            refine (HJ 11 [x, y] [_, _] _ 2 _ rfl rfl (heap_alloc_new _ _) (by decide) (by have h1 := HLX.out; have h2 := HLY.out; simp; omega) (argTwo (HAx.out.keep (hj1.alloc _)) (HAy.out.keep (hj1.alloc _)))).out.mono ?_
            rintro e j2 ⟨⟨ao2, q2, cp2, rfl, hq2, hown2⟩, hkj2⟩
            have hk6_2 := (hk6_1.alloc _).then hkj2
            have hj2 := (hj1.alloc _).then hkj2
            have HA2 := Lib.hid (own_parts hown2 hq2)
            have HA1 := Lib.hid ((HA1.out.keep ((Keeps.refl [] j1).alloc _)).keep hkj2)
            clear hq2 hown2 hkj1 hj1
            go_wp2_with fail
            refine (HJ 11 [y, x] [_, _] _ 2 _ rfl rfl (heap_alloc_new _ _) (by decide) (by have h1 := HLX.out; have h2 := HLY.out; simp; omega) (argTwo (HAy.out.keep (hj2.alloc _)) (HAx.out.keep (hj2.alloc _)))).out.mono ?_
            rintro e j3 ⟨⟨ao3, q3, cp3, rfl, hq3, hown3⟩, hkj3⟩
            have hk6_3 := (hk6_2.alloc _).then hkj3
            have hj3 := (hj2.alloc _).then hkj3
            have HA3 := Lib.hid (own_parts hown3 hq3)
            have HA1 := Lib.hid ((HA1.out.keep ((Keeps.refl [] j2).alloc _)).keep hkj3)
            have HA2 := Lib.hid ((HA2.out.keep ((Keeps.refl [] j2).alloc _)).keep hkj3)
            clear hq3 hown3 hkj2 hj2
            go_wp2_with fail
            refine (HJ 12 [x, y] [_, _] _ 2 _ rfl rfl (heap_alloc_new _ _) (by decide) (by have h1 := HLX.out; have h2 := HLY.out; simp; omega) (argTwo (HAx.out.keep (hj3.alloc _)) (HAy.out.keep (hj3.alloc _)))).out.mono ?_
            rintro e j4 ⟨⟨ao4, q4, cp4, rfl, hq4, hown4⟩, hkj4⟩
            have hk6_4 := (hk6_3.alloc _).then hkj4
            have hj4 := (hj3.alloc _).then hkj4
            have HA4 := Lib.hid (own_parts hown4 hq4)
            have HA1 := Lib.hid ((HA1.out.keep ((Keeps.refl [] j3).alloc _)).keep hkj4)
            have HA2 := Lib.hid ((HA2.out.keep ((Keeps.refl [] j3).alloc _)).keep hkj4)
            have HA3 := Lib.hid ((HA3.out.keep ((Keeps.refl [] j3).alloc _)).keep hkj4)
            clear hq4 hown4 hkj3 hj3
            go_wp2_with fail
            refine (HJ 12 [y, x] [_, _] _ 2 _ rfl rfl (heap_alloc_new _ _) (by decide) (by have h1 := HLX.out; have h2 := HLY.out; simp; omega) (argTwo (HAy.out.keep (hj4.alloc _)) (HAx.out.keep (hj4.alloc _)))).out.mono ?_
            rintro e j5 ⟨⟨ao5, q5, cp5, rfl, hq5, hown5⟩, hkj5⟩
            have hk6_5 := (hk6_4.alloc _).then hkj5
            have hj5 := (hj4.alloc _).then hkj5
            have HA5 := Lib.hid (own_parts hown5 hq5)
            have HA1 := Lib.hid ((HA1.out.keep ((Keeps.refl [] j4).alloc _)).keep hkj5)
            have HA2 := Lib.hid ((HA2.out.keep ((Keeps.refl [] j4).alloc _)).keep hkj5)
            have HA3 := Lib.hid ((HA3.out.keep ((Keeps.refl [] j4).alloc _)).keep hkj5)
            have HA4 := Lib.hid ((HA4.out.keep ((Keeps.refl [] j4).alloc _)).keep hkj5)
            clear hq5 hown5 hkj4 hj4
            go_wp2_with fail
            have hfl : [x].flatten = x ∧ [x, y].flatten = x ++ y ∧ [y, x].flatten = y ++ x := by simp
            rw [hfl.1] at HA1
            rw [hfl.2.1] at HA2 HA4
            rw [hfl.2.2] at HA3 HA5
            have HArgs := Lib.hid (fun k hk => tr_args HA1.out HA2.out HA3.out HA4.out HA5.out k hk)
            have HEV7 := Lib.hid (hk6_5.heap HEV6.out (by simp))
            clear hfl hkj5 hk6' HA1 HA2 HA3 HA4 HA5 HJ e0 e1 e2 e3 e4 e5 e6
            go_loopw [99] (fun i wr => ∃ k : Nat, k ≤ 5 ∧ i = .int .i64 k ∧ Hid (wr.heap[j5.heap.size]? = some (.cells #[.slice ao1 q1 cp1, .bool (trW false true 0), .slice ao2 q2 cp2, .bool (trW false true 1), .slice ao3 q3 cp3, .bool (trW false true 2), .slice ao4 q4 cp4, .bool (trW false true 3), .slice ao5 q5 cp5, .bool (trW false true 4)] 60 (0, 0))) ∧ Keeps [] j5 wr) (fun i _ => 5 - (intOf i).toNat)
            case atStart => exact ⟨0, Nat.zero_le _, rfl, Lib.hid (heap_alloc_new _ _), (Keeps.refl [] j5).alloc _⟩
            case round =>
              obtain ⟨k, hk5, rfl, hB7, hk⟩ := hrel
              by_cases hlt : k < 5
              · have d1 : decide ((k : Int) < 5) = true := by simp; omega
                obtain ⟨z0, z1⟩ := tr_cells hB7.out k hlt
                have HZA := Lib.hid (HArgs.out k hlt)
                have HZO := Lib.hid (trZ_ok HOx.out HOy.out k hlt)
                have HZR := Lib.hid (HTR.out k hlt)
                obtain ⟨wt, hwt⟩ : ∃ wt, trW false true k = wt := ⟨_, rfl⟩
                obtain ⟨z, hz⟩ : ∃ z, trZ x y k = z := ⟨_, rfl⟩
                obtain ⟨vz, hvz⟩ : ∃ vz, trV (.slice ao1 q1 cp1) (.slice ao2 q2 cp2) (.slice ao3 q3 cp3) (.slice ao4 q4 cp4) (.slice ao5 q5 cp5) k = vz := ⟨_, rfl⟩
                rw [hz] at HZA HZO HZR
                rw [hvz] at HZA z0
                rw [hwt] at HZR z1
                obtain ⟨aoz, cpz, rfl, _, _⟩ := HZA.out
                obtain ⟨nz, hnz⟩ : ∃ n, z.length = n := ⟨_, rfl⟩
                rw [hnz] at HZA z0
                clear hz hvz hwt hnz
                have hk8 := hk.alloc (.cells #[.slice aoz nz cpz, .bool wt] 60 (0, 0))
                have HTz := Lib.hid (wholeLaw_any z _ _ (HG.out.keep (hj5.then hk8)) HZO.out (HZA.out.keep hk8))
                have hb8 := heap_alloc_new wr (.cells #[.slice aoz nz cpz, .bool wt] 60 (0, 0))
                have HB8 := Lib.hid hb8
                clear hb8
                go_wp2_with fail
                refine HTz.out.mono ?_
                rintro e w9 ⟨rfl, hk9⟩
                have hk9' := hk8.then hk9
                cases htz : truthM z with
                | false =>
                  clear HTz HZR htz
                  go_wp2_with fail
                  exact ⟨⟨k + 1, by omega, by simp, Lib.hid (((Keeps.refl [] wr).alloc _ |>.then hk9).heap hB7.out (by simp)), hk9'⟩, by simp only [intOf]; omega⟩
                | true =>
                  obtain ⟨hvB, hvC⟩ := HZR.out htz
                  have HHz := Lib.hid (holds_any z ev [] [] _ _ _ w9 (HG.out.keep (hj5.then hk9')) HZO.out (HZA.out.keep hk9') (hnil _) (hnile _))
                  rw [hvB, hvC] at HHz
                  have hb8 := hk9.heap HB8.out (by simp)
                  have y0 : w9.cell? ⟨wr.heap.size, 0, none⟩ = some (.slice aoz nz cpz) := by simp only [World.cell?, hb8]; rfl
                  obtain ⟨e0, e1, e2, e3, e4, e5, e6⟩ := ev_block (hk9'.heap HEV7.out (by simp))
                  have HB9 := Lib.hid hb8
                  clear HTz HZR htz hvB hvC HB8 z0 z1 hb8
                  go_wp2_with fail
                  refine HHz.out.mono ?_
                  rintro e w10 ⟨rfl, hk10⟩
                  have hb9 := hk10.heap HB9.out (by simp)
                  have y1 : w10.cell? ⟨wr.heap.size, 1, none⟩ = some (.bool wt) := by simp only [World.cell?, hb9]; rfl
                  have d9 : (wt != wt) = false := by simp
                  clear hb9 HHz
                  go_wp2_with fail
                  exact ⟨⟨k + 1, by omega, by simp, Lib.hid ((((Keeps.refl [] wr).alloc _ |>.then hk9).then hk10).heap hB7.out (by simp)), hk9'.then hk10⟩, by simp only [intOf]; omega⟩
              · have hke : k = 5 := by omega
                have d1 : decide ((k : Int) < 5) = false := by simp; omega
                go_wp2_with fail
                go_returns
                exact ⟨rfl, hj5.then hk⟩
          · have hk66 := Keeps.refl [] w6
            go_wp2_with fail
            refine (HJ 13 [x] [_] _ 1 _ rfl rfl (heap_alloc_new _ _) (by decide) (by have h1 := HLX.out; have h2 := HLY.out; simp; omega) (argOne (HAx.out.keep (hk6'.alloc _)))).out.mono ?_
            rintro e j1 ⟨⟨ao1, q1, cp1, rfl, hq1, hown1⟩, hkj1⟩
            have hk6_1 := (hk66.alloc _).then hkj1
            have hj1 := (hk6'.alloc _).then hkj1
            have HA1 := Lib.hid (own_parts hown1 hq1)
            clear hq1 hown1
            go_wp2_with fail
            refine (HJ 11 [x, y] [_, _] _ 2 _ rfl rfl (heap_alloc_new _ _) (by decide) (by have h1 := HLX.out; have h2 := HLY.out; simp; omega) (argTwo (HAx.out.keep (hj1.alloc _)) (HAy.out.keep (hj1.alloc _)))).out.mono ?_
            rintro e j2 ⟨⟨ao2, q2, cp2, rfl, hq2, hown2⟩, hkj2⟩
            have hk6_2 := (hk6_1.alloc _).then hkj2
            have hj2 := (hj1.alloc _).then hkj2
            have HA2 := Lib.hid (own_parts hown2 hq2)
            have HA1 := Lib.hid ((HA1.out.keep ((Keeps.refl [] j1).alloc _)).keep hkj2)
            clear hq2 hown2 hkj1 hj1
            go_wp2_with fail
            refine (HJ 11 [y, x] [_, _] _ 2 _ rfl rfl (heap_alloc_new _ _) (by decide) (by have h1 := HLX.out; have h2 := HLY.out; simp; omega) (argTwo (HAy.out.keep (hj2.alloc _)) (HAx.out.keep (hj2.alloc _)))).out.mono ?_
            rintro e j3 ⟨⟨ao3, q3, cp3, rfl, hq3, hown3⟩, hkj3⟩
            have hk6_3 := (hk6_2.alloc _).then hkj3
            have hj3 := (hj2.alloc _).then hkj3
            have HA3 := Lib.hid (own_parts hown3 hq3)
            have HA1 := Lib.hid ((HA1.out.keep ((Keeps.refl [] j2).alloc _)).keep hkj3)
            have HA2 := Lib.hid ((HA2.out.keep ((Keeps.refl [] j2).alloc _)).keep hkj3)
            clear hq3 hown3 hkj2 hj2
            go_wp2_with fail
            refine (HJ 12 [x, y] [_, _] _ 2 _ rfl rfl (heap_alloc_new _ _) (by decide) (by have h1 := HLX.out; have h2 := HLY.out; simp; omega) (argTwo (HAx.out.keep (hj3.alloc _)) (HAy.out.keep (hj3.alloc _)))).out.mono ?_
            rintro e j4 ⟨⟨ao4, q4, cp4, rfl, hq4, hown4⟩, hkj4⟩
            have hk6_4 := (hk6_3.alloc _).then hkj4
            have hj4 := (hj3.alloc _).then hkj4
            have HA4 := Lib.hid (own_parts hown4 hq4)
            have HA1 := Lib.hid ((HA1.out.keep ((Keeps.refl [] j3).alloc _)).keep hkj4)
            have HA2 := Lib.hid ((HA2.out.keep ((Keeps.refl [] j3).alloc _)).keep hkj4)
            have HA3 := Lib.hid ((HA3.out.keep ((Keeps.refl [] j3).alloc _)).keep hkj4)
            clear hq4 hown4 hkj3 hj3
            go_wp2_with fail
            refine (HJ 12 [y, x] [_, _] _ 2 _ rfl rfl (heap_alloc_new _ _) (by decide) (by have h1 := HLX.out; have h2 := HLY.out; simp; omega) (argTwo (HAy.out.keep (hj4.alloc _)) (HAx.out.keep (hj4.alloc _)))).out.mono ?_
            rintro e j5 ⟨⟨ao5, q5, cp5, rfl, hq5, hown5⟩, hkj5⟩
            have hk6_5 := (hk6_4.alloc _).then hkj5
            have hj5 := (hj4.alloc _).then hkj5
            have HA5 := Lib.hid (own_parts hown5 hq5)
            have HA1 := Lib.hid ((HA1.out.keep ((Keeps.refl [] j4).alloc _)).keep hkj5)
            have HA2 := Lib.hid ((HA2.out.keep ((Keeps.refl [] j4).alloc _)).keep hkj5)
            have HA3 := Lib.hid ((HA3.out.keep ((Keeps.refl [] j4).alloc _)).keep hkj5)
            have HA4 := Lib.hid ((HA4.out.keep ((Keeps.refl [] j4).alloc _)).keep hkj5)
            clear hq5 hown5 hkj4 hj4
            go_wp2_with fail
            have hfl : [x].flatten = x ∧ [x, y].flatten = x ++ y ∧ [y, x].flatten = y ++ x := by simp
            rw [hfl.1] at HA1
            rw [hfl.2.1] at HA2 HA4
            rw [hfl.2.2] at HA3 HA5
            have HArgs := Lib.hid (fun k hk => tr_args HA1.out HA2.out HA3.out HA4.out HA5.out k hk)
            have HEV7 := Lib.hid (hk6_5.heap HEV6.out (by simp))
            clear hfl hkj5 hk6' HA1 HA2 HA3 HA4 HA5 HJ e0 e1 e2 e3 e4 e5 e6
            go_loopw [99] (fun i wr => ∃ k : Nat, k ≤ 5 ∧ i = .int .i64 k ∧ Hid (wr.heap[j5.heap.size]? = some (.cells #[.slice ao1 q1 cp1, .bool (trW true false 0), .slice ao2 q2 cp2, .bool (trW true false 1), .slice ao3 q3 cp3, .bool (trW true false 2), .slice ao4 q4 cp4, .bool (trW true false 3), .slice ao5 q5 cp5, .bool (trW true false 4)] 60 (0, 0))) ∧ Keeps [] j5 wr) (fun i _ => 5 - (intOf i).toNat)
            case atStart => exact ⟨0, Nat.zero_le _, rfl, Lib.hid (heap_alloc_new _ _), (Keeps.refl [] j5).alloc _⟩
            case round =>
              obtain ⟨k, hk5, rfl, hB7, hk⟩ := hrel
              by_cases hlt : k < 5
              · have d1 : decide ((k : Int) < 5) = true := by simp; omega
                obtain ⟨z0, z1⟩ := tr_cells hB7.out k hlt
                have HZA := Lib.hid (HArgs.out k hlt)
                have HZO := Lib.hid (trZ_ok HOx.out HOy.out k hlt)
                have HZR := Lib.hid (HTR.out k hlt)
                obtain ⟨wt, hwt⟩ : ∃ wt, trW true false k = wt := ⟨_, rfl⟩
                obtain ⟨z, hz⟩ : ∃ z, trZ x y k = z := ⟨_, rfl⟩
                obtain ⟨vz, hvz⟩ : ∃ vz, trV (.slice ao1 q1 cp1) (.slice ao2 q2 cp2) (.slice ao3 q3 cp3) (.slice ao4 q4 cp4) (.slice ao5 q5 cp5) k = vz := ⟨_, rfl⟩
                rw [hz] at HZA HZO HZR
                rw [hvz] at HZA z0
                rw [hwt] at HZR z1
                obtain ⟨aoz, cpz, rfl, _, _⟩ := HZA.out
                obtain ⟨nz, hnz⟩ : ∃ n, z.length = n := ⟨_, rfl⟩
                rw [hnz] at HZA z0
                clear hz hvz hwt hnz
                have hk8 := hk.alloc (.cells #[.slice aoz nz cpz, .bool wt] 60 (0, 0))
                have HTz := Lib.hid (wholeLaw_any z _ _ (HG.out.keep (hj5.then hk8)) HZO.out (HZA.out.keep hk8))
                have hb8 := heap_alloc_new wr (.cells #[.slice aoz nz cpz, .bool wt] 60 (0, 0))
                have HB8 := Lib.hid hb8
                clear hb8
                go_wp2_with fail
                refine HTz.out.mono ?_
                rintro e w9 ⟨rfl, hk9⟩
                have hk9' := hk8.then hk9
                cases htz : truthM z with
                | false =>
                  clear HTz HZR htz
                  go_wp2_with fail
                  exact ⟨⟨k + 1, by omega, by simp, Lib.hid (((Keeps.refl [] wr).alloc _ |>.then hk9).heap hB7.out (by simp)), hk9'⟩, by simp only [intOf]; omega⟩
                | true =>
                  obtain ⟨hvB, hvC⟩ := HZR.out htz
                  have HHz := Lib.hid (holds_any z ev [] [] _ _ _ w9 (HG.out.keep (hj5.then hk9')) HZO.out (HZA.out.keep hk9') (hnil _) (hnile _))
                  rw [hvB, hvC] at HHz
                  have hb8 := hk9.heap HB8.out (by simp)
                  have y0 : w9.cell? ⟨wr.heap.size, 0, none⟩ = some (.slice aoz nz cpz) := by simp only [World.cell?, hb8]; rfl
                  obtain ⟨e0, e1, e2, e3, e4, e5, e6⟩ := ev_block (hk9'.heap HEV7.out (by simp))
                  have HB9 := Lib.hid hb8
                  clear HTz HZR htz hvB hvC HB8 z0 z1 hb8
                  go_wp2_with fail
                  refine HHz.out.mono ?_
                  rintro e w10 ⟨rfl, hk10⟩
                  have hb9 := hk10.heap HB9.out (by simp)
                  have y1 : w10.cell? ⟨wr.heap.size, 1, none⟩ = some (.bool wt) := by simp only [World.cell?, hb9]; rfl
                  have d9 : (wt != wt) = false := by simp
                  clear hb9 HHz
                  go_wp2_with fail
                  exact ⟨⟨k + 1, by omega, by simp, Lib.hid ((((Keeps.refl [] wr).alloc _ |>.then hk9).then hk10).heap hB7.out (by simp)), hk9'.then hk10⟩, by simp only [intOf]; omega⟩
              · have hke : k = 5 := by omega
                have d1 : decide ((k : Int) < 5) = false := by simp; omega
                go_wp2_with fail
                go_returns
                exact ⟨rfl, hj5.then hk⟩
          · have hk66 := Keeps.refl [] w6
            go_wp2_with fail
            refine (HJ 13 [x] [_] _ 1 _ rfl rfl (heap_alloc_new _ _) (by decide) (by have h1 := HLX.out; have h2 := HLY.out; simp; omega) (argOne (HAx.out.keep (hk6'.alloc _)))).out.mono ?_
            rintro e j1 ⟨⟨ao1, q1, cp1, rfl, hq1, hown1⟩, hkj1⟩
            have hk6_1 := (hk66.alloc _).then hkj1
            have hj1 := (hk6'.alloc _).then hkj1
            have HA1 := Lib.hid (own_parts hown1 hq1)
            clear hq1 hown1
            go_wp2_with fail
            refine (HJ 11 [x, y] [_, _] _ 2 _ rfl rfl (heap_alloc_new _ _) (by decide) (by have h1 := HLX.out; have h2 := HLY.out; simp; omega) (argTwo (HAx.out.keep (hj1.alloc _)) (HAy.out.keep (hj1.alloc _)))).out.mono ?_
            rintro e j2 ⟨⟨ao2, q2, cp2, rfl, hq2, hown2⟩, hkj2⟩
            have hk6_2 := (hk6_1.alloc _).then hkj2
            have hj2 := (hj1.alloc _).then hkj2
            have HA2 := Lib.hid (own_parts hown2 hq2)
            have HA1 := Lib.hid ((HA1.out.keep ((Keeps.refl [] j1).alloc _)).keep hkj2)
            clear hq2 hown2 hkj1 hj1
            go_wp2_with fail
            refine (HJ 11 [y, x] [_, _] _ 2 _ rfl rfl (heap_alloc_new _ _) (by decide) (by have h1 := HLX.out; have h2 := HLY.out; simp; omega) (argTwo (HAy.out.keep (hj2.alloc _)) (HAx.out.keep (hj2.alloc _)))).out.mono ?_
            rintro e j3 ⟨⟨ao3, q3, cp3, rfl, hq3, hown3⟩, hkj3⟩
            have hk6_3 := (hk6_2.alloc _).then hkj3
            have hj3 := (hj2.alloc _).then hkj3
            have HA3 := Lib.hid (own_parts hown3 hq3)
            have HA1 := Lib.hid ((HA1.out.keep ((Keeps.refl [] j2).alloc _)).keep hkj3)
            have HA2 := Lib.hid ((HA2.out.keep ((Keeps.refl [] j2).alloc _)).keep hkj3)
            clear hq3 hown3 hkj2 hj2
            go_wp2_with fail
            refine (HJ 12 [x, y] [_, _] _ 2 _ rfl rfl (heap_alloc_new _ _) (by decide) (by have h1 := HLX.out; have h2 := HLY.out; simp; omega) (argTwo (HAx.out.keep (hj3.alloc _)) (HAy.out.keep (hj3.alloc _)))).out.mono ?_
            rintro e j4 ⟨⟨ao4, q4, cp4, rfl, hq4, hown4⟩, hkj4⟩
            have hk6_4 := (hk6_3.alloc _).then hkj4
            have hj4 := (hj3.alloc _).then hkj4
            have HA4 := Lib.hid (own_parts hown4 hq4)
            have HA1 := Lib.hid ((HA1.out.keep ((Keeps.refl [] j3).alloc _)).keep hkj4)
            have HA2 := Lib.hid ((HA2.out.keep ((Keeps.refl [] j3).alloc _)).keep hkj4)
            have HA3 := Lib.hid ((HA3.out.keep ((Keeps.refl [] j3).alloc _)).keep hkj4)
            clear hq4 hown4 hkj3 hj3
            go_wp2_with fail
            refine (HJ 12 [y, x] [_, _] _ 2 _ rfl rfl (heap_alloc_new _ _) (by decide) (by have h1 := HLX.out; have h2 := HLY.out; simp; omega) (argTwo (HAy.out.keep (hj4.alloc _)) (HAx.out.keep (hj4.alloc _)))).out.mono ?_
            rintro e j5 ⟨⟨ao5, q5, cp5, rfl, hq5, hown5⟩, hkj5⟩
            have hk6_5 := (hk6_4.alloc _).then hkj5
            have hj5 := (hj4.alloc _).then hkj5
            have HA5 := Lib.hid (own_parts hown5 hq5)
            have HA1 := Lib.hid ((HA1.out.keep ((Keeps.refl [] j4).alloc _)).keep hkj5)
            have HA2 := Lib.hid ((HA2.out.keep ((Keeps.refl [] j4).alloc _)).keep hkj5)
            have HA3 := Lib.hid ((HA3.out.keep ((Keeps.refl [] j4).alloc _)).keep hkj5)
            have HA4 := Lib.hid ((HA4.out.keep ((Keeps.refl [] j4).alloc _)).keep hkj5)
            clear hq5 hown5 hkj4 hj4
            go_wp2_with fail
            have hfl : [x].flatten = x ∧ [x, y].flatten = x ++ y ∧ [y, x].flatten = y ++ x := by simp
            rw [hfl.1] at HA1
            rw [hfl.2.1] at HA2 HA4
            rw [hfl.2.2] at HA3 HA5
            have HArgs := Lib.hid (fun k hk => tr_args HA1.out HA2.out HA3.out HA4.out HA5.out k hk)
            have HEV7 := Lib.hid (hk6_5.heap HEV6.out (by simp))
            clear hfl hkj5 hk6' HA1 HA2 HA3 HA4 HA5 HJ e0 e1 e2 e3 e4 e5 e6
            go_loopw [99] (fun i wr => ∃ k : Nat, k ≤ 5 ∧ i = .int .i64 k ∧ Hid (wr.heap[j5.heap.size]? = some (.cells #[.slice ao1 q1 cp1, .bool (trW true true 0), .slice ao2 q2 cp2, .bool (trW true true 1), .slice ao3 q3 cp3, .bool (trW true true 2), .slice ao4 q4 cp4, .bool (trW true true 3), .slice ao5 q5 cp5, .bool (trW true true 4)] 60 (0, 0))) ∧ Keeps [] j5 wr) (fun i _ => 5 - (intOf i).toNat)
            case atStart => exact ⟨0, Nat.zero_le _, rfl, Lib.hid (heap_alloc_new _ _), (Keeps.refl [] j5).alloc _⟩
            case round =>
              obtain ⟨k, hk5, rfl, hB7, hk⟩ := hrel
              by_cases hlt : k < 5
              · have d1 : decide ((k : Int) < 5) = true := by simp; omega
                obtain ⟨z0, z1⟩ := tr_cells hB7.out k hlt
                have HZA := Lib.hid (HArgs.out k hlt)
                have HZO := Lib.hid (trZ_ok HOx.out HOy.out k hlt)
                have HZR := Lib.hid (HTR.out k hlt)
                obtain ⟨wt, hwt⟩ : ∃ wt, trW true true k = wt := ⟨_, rfl⟩
                obtain ⟨z, hz⟩ : ∃ z, trZ x y k = z := ⟨_, rfl⟩
                obtain ⟨vz, hvz⟩ : ∃ vz, trV (.slice ao1 q1 cp1) (.slice ao2 q2 cp2) (.slice ao3 q3 cp3) (.slice ao4 q4 cp4) (.slice ao5 q5 cp5) k = vz := ⟨_, rfl⟩
                rw [hz] at HZA HZO HZR
                rw [hvz] at HZA z0
                rw [hwt] at HZR z1
                obtain ⟨aoz, cpz, rfl, _, _⟩ := HZA.out
                obtain ⟨nz, hnz⟩ : ∃ n, z.length = n := ⟨_, rfl⟩
                rw [hnz] at HZA z0
                clear hz hvz hwt hnz
                have hk8 := hk.alloc (.cells #[.slice aoz nz cpz, .bool wt] 60 (0, 0))
                have HTz := Lib.hid (wholeLaw_any z _ _ (HG.out.keep (hj5.then hk8)) HZO.out (HZA.out.keep hk8))
                have hb8 := heap_alloc_new wr (.cells #[.slice aoz nz cpz, .bool wt] 60 (0, 0))
                have HB8 := Lib.hid hb8
                clear hb8
                go_wp2_with fail
                refine HTz.out.mono ?_
                rintro e w9 ⟨rfl, hk9⟩
                have hk9' := hk8.then hk9
                cases htz : truthM z with
                | false =>
                  clear HTz HZR htz
                  go_wp2_with fail
                  exact ⟨⟨k + 1, by omega, by simp, Lib.hid (((Keeps.refl [] wr).alloc _ |>.then hk9).heap hB7.out (by simp)), hk9'⟩, by simp only [intOf]; omega⟩
                | true =>
                  obtain ⟨hvB, hvC⟩ := HZR.out htz
                  have HHz := Lib.hid (holds_any z ev [] [] _ _ _ w9 (HG.out.keep (hj5.then hk9')) HZO.out (HZA.out.keep hk9') (hnil _) (hnile _))
                  rw [hvB, hvC] at HHz
                  have hb8 := hk9.heap HB8.out (by simp)
                  have y0 : w9.cell? ⟨wr.heap.size, 0, none⟩ = some (.slice aoz nz cpz) := by simp only [World.cell?, hb8]; rfl
                  obtain ⟨e0, e1, e2, e3, e4, e5, e6⟩ := ev_block (hk9'.heap HEV7.out (by simp))
                  have HB9 := Lib.hid hb8
                  clear HTz HZR htz hvB hvC HB8 z0 z1 hb8
                  go_wp2_with fail
                  refine HHz.out.mono ?_
                  rintro e w10 ⟨rfl, hk10⟩
                  have hb9 := hk10.heap HB9.out (by simp)
                  have y1 : w10.cell? ⟨wr.heap.size, 1, none⟩ = some (.bool wt) := by simp only [World.cell?, hb9]; rfl
                  have d9 : (wt != wt) = false := by simp
                  clear hb9 HHz
                  go_wp2_with fail
                  exact ⟨⟨k + 1, by omega, by simp, Lib.hid ((((Keeps.refl [] wr).alloc _ |>.then hk9).then hk10).heap hB7.out (by simp)), hk9'.then hk10⟩, by simp only [intOf]; omega⟩
              · have hke : k = 5 := by omega
                have d1 : decide ((k : Int) < 5) = false := by simp; omega
                go_wp2_with fail
                go_returns
                exact ⟨rfl, hj5.then hk⟩
        · rw [hcy]
          clear hcx hcy hmx HT HH
          go_wp2_with fail
          go_returns
          exact ⟨rfl, hk6'⟩
      · rw [hcx]
        clear hcx HT HH
        generalize holdsC y [] [] = cy
        go_wp2_with fail
        go_returns
        exact ⟨rfl, hk6'⟩

end Go.Proofs.YtefcmijobbgpbaaGreatDoor
