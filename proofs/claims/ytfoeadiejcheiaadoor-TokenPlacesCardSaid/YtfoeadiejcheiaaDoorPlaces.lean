/- TokenPlaces, walked. Conditions: those of each theorem. -/
import Derived.Test.YtfoeadiejcheiaaDoorLawG
namespace Go.Proofs.YtfoeadiejcheiaaDoor
open Go.RowKit

set_option maxHeartbeats 8000000 in
set_option maxRecDepth 100000 in
theorem tokenPlaces_any (s : ByteArray) (w : World) (hG : Glob w) (hs : s.size ≤ 140737488351232) :
    Calls Tryd.prog 6 #[.string s] w fun e w' => e = .returned (.bool true) ∧ Keeps [] w w' := by
  have hk0 := Keeps.refl [] w
  have HG := Lib.hid hG
  have HWk := fun w hG => Lib.hid (works_any w hG)
  clear hG
  rcases tok_split s with hbad | ⟨hsz, xs, hT⟩
  · have HB := fun w hG => Lib.hid (tokens_fault hbad w hG)
    clear hbad
    go_enter Tryd.func6, Tryd.ntmps6
    go_wp2_with fail
    refine (HWk _ (HG.out.keep hk0)).out.mono ?_
    rintro e w1 ⟨rfl, hk1⟩
    go_wp2_with fail
    refine (HB _ (HG.out.keep hk1)).out.mono ?_
    rintro e w2 ⟨⟨p, c, rfl, hc⟩, hk2⟩
    have hkw := (hk1.then hk2).alloc (.cells #[.int .i64 p, .int .i64 c] 30 (0, 0))
    have E := run_eqIn_fault
    have G := fault_guard
    have d0 : ((p == 0) && (c == 0)) = false := by rw [hc]; simp
    clear hk1 hk2 hc
    go_wp2_with fail
    go_returns
    exact ⟨rfl, hkw⟩
  · obtain ⟨q, hq⟩ : ∃ q, xs.length = q := ⟨_, rfl⟩
    have HT1 := fun w hG => Lib.hid (tokens_new hsz hT hq w hG)
    obtain ⟨E, W, hlay⟩ := lay_of hT
    have hE0 : E 0 = 0 := hlay.1
    have HL := fun k hk => Lib.hid (lay_at hlay hq (k := k) hk)
    have hq4 : q ≤ 4096 := by
      obtain ⟨ts, _, hxt, htn, _⟩ := join_toks hT s.size
      have := congrArg List.length hxt
      simp at this
      omega
    clear hT hq hlay
    go_enter Tryd.func6, Tryd.ntmps6
    go_wp2_with fail
    refine (HWk _ (HG.out.keep hk0)).out.mono ?_
    rintro e w1 ⟨rfl, hk1⟩
    go_wp2_with fail
    refine (HT1 _ (HG.out.keep hk1)).out.mono ?_
    rintro e w2 ⟨⟨g, cp, rfl, hN⟩, hk2⟩
    have ha := (Keeps.refl [] w2).alloc (.cells #[.int .i64 0, .int .i64 0] 30 (0, 0))
    have hcg := hN.cap
    have hcr := hN.room
    have EQ := run_eqIn_fault
    have GD := fault_guard
    go_wp2_with fail
    obtain ⟨w3, hw3⟩ : ∃ w3, w3 = w2.alloc (.cells #[.int .i64 0, .int .i64 0] 30 (0, 0)) := ⟨_, rfl⟩
    rw [← hw3] at ha ⊢
    have hk3 := (hk1.then hk2).then ha
    have HS := Lib.hid (hN.is.keep ha)
    clear hw3 ha hk1 hk2 hN HT1 HWk EQ GD
    rw [show ((q : Int) + 1) = ((q + 1 : Nat) : Int) from by omega]
    obtain ⟨r, hr⟩ : ∃ r, r = q + 1 := ⟨_, rfl⟩
    rw [← hr] at hcg ⊢
    have HR := Lib.hid hr
    clear hr
    go_loopw [5, 26] (fun en i wr => ∃ k : Nat, k ≤ q ∧ i = .int .i64 k ∧ en = .int .i64 (E k : Nat) ∧ Keeps [] w3 wr) (fun _ i _ => r - (intOf i).toNat)
    case atStart => exact ⟨0, Nat.zero_le _, rfl, by rw [hE0]; rfl, Keeps.refl _ _⟩
    case round =>
      obtain ⟨k, hkq, rfl, rfl, hk⟩ := hrel
      obtain ⟨x, a, hx, hat, hEa, has, hbl, hend, htok⟩ := (HL k hkq).out
      obtain ⟨c0, c1, c2, c3⟩ := (HS.out.keep hk) k x hx
      simp only [Nat.zero_add] at c0 c1 c2 c3
      have HBL := Lib.hid hbl
      have HEND := Lib.hid hend
      have HTOK := Lib.hid htok
      have hkr : k < r := by have := HR.out; omega
      have d1 : decide ((k : Int) < (r : Int)) = true := by simp; omega
      obtain ⟨e, he⟩ : ∃ e, E k = e := ⟨_, rfl⟩
      rw [he] at hEa HBL ⊢
      rw [hat] at c3
      clear hbl hend htok hx hat
      have d2 : decide ((a : Int) < (e : Int)) = false := by simp; omega
      have d3 : decide ((a : Int) > (s.size : Int)) = false := by simp; omega
      go_wp2_with fail
      obtain ⟨w4, hw4⟩ : ∃ w4, w4 = wr.alloc (.cells #[.int .i64 x.kind, .string x.s, .int .i64 x.n, .int .i64 (a : Int)] 34 (0, 0)) := ⟨_, rfl⟩
      have hb4 : w4.heap[wr.heap.size]? = some (.cells #[.int .i64 x.kind, .string x.s, .int .i64 x.n, .int .i64 (a : Int)] 34 (0, 0)) := by rw [hw4]; exact heap_alloc_new _ _
      obtain ⟨b0, b1, b2, b3, _, _, _, _⟩ := tok_block hb4
      have hk4 : Keeps [] w3 w4 := by rw [hw4]; exact hk.alloc _
      obtain ⟨B, hB⟩ : ∃ B, B = wr.heap.size := ⟨_, rfl⟩
      rw [← hB] at b0 b1 b2 b3
      rw [← hw4, ← hB]
      clear hw4 hb4 hB hk c0 c1 c2 c3 hcg hkr d1 d2 d3
      have f1 : decide (a < e) = false := by simp; omega
      have f2 : decide (s.size < a) = false := by simp; omega
      rw [f1, f2]
      simp only [Bool.or_false]
      go_loopw [8] (fun j wq => ∃ m : Nat, e ≤ m ∧ m ≤ a ∧ j = .int .i64 m ∧ wq = w4) (fun j _ => a - (intOf j).toNat)
      case atStart => exact ⟨e, Nat.le_refl _, hEa, rfl, rfl⟩
      case round =>
        obtain ⟨m, hem, hma, rfl, rfl⟩ := hrel
        by_cases hlt : m < a
        · have hms : m < s.size := by omega
          have hbb := HBL.out m hms hem hlt
          have d4 : decide ((m : Int) < (a : Int)) = true := by simp; omega
          have hbt : (s[m].toNat : Int) = 32 ∨ (s[m].toNat : Int) = 10 := by
            unfold isBlank at hbb
            simp at hbb
            rcases hbb with h | h <;> simp [h]
          clear hbb
          rcases hbt with hbt | hbt
          · go_wp2_with fail
            exact ⟨⟨m + 1, by omega, by omega, by simp, trivial⟩, by simp only [intOf]; omega⟩
          · go_wp2_with fail
            exact ⟨⟨m + 1, by omega, by omega, by simp, trivial⟩, by simp only [intOf]; omega⟩
        · have hme : m = a := by omega
          have d4 : decide ((m : Int) < (a : Int)) = false := by simp; omega
          subst hme
          rcases Nat.lt_or_ge k q with hkl | hkg
          · obtain ⟨t, hxt, hat, hE', htw, hlex⟩ := HTOK.out hkl
            have d5 : ((k : Int) == (q : Int)) = false := by rw [beq_eq_false_iff_ne]; omega
            have q1 : IntKind.i64.wrap ((r : Int) - 1) = (q : Int) := (IntWalk.i64_in _ (by have := HR.out; omega)).trans (by have := HR.out; omega)
            have hJ := joinM_one hlex m
            have hok : ∀ y ∈ [tokR (t, m)], y.ok := by
              have hb := lexOne_bounds hlex
              intro y hy
              simp at hy
              subst hy
              exact ⟨by simp only [tokR]; omega, by simp only [tokR]; omega, by show (t.s.toArray).size ≤ _; simp; omega⟩
            rw [← hxt] at hJ hok
            have hxa : x.at_ = (m : Int) := by rw [hxt]; rfl
            have HXA := Lib.hid hxa
            clear hxt hxa
            go_wp2_with fail
            refine (join_fine hJ _ (HG.out.keep ((hk3.then hk4).alloc _)) hok ?_).mono ?_
            · refine ⟨_, _, rfl, (fun e => nomatch e), fun _ => ⟨wr.heap.size, 0, rfl, ?_, Nat.le_refl _, by simp⟩⟩
              intro j y hj
              have hj0 : j = 0 := by
                rcases Nat.eq_zero_or_pos j with h | h
                · exact h
                · rw [List.getElem?_eq_none (by simp; omega)] at hj; cases hj
              subst hj0
              cases hj
              obtain ⟨z0, z1, z2, z3, _⟩ := tok_block (heap_alloc_new wr (.cells #[.int .i64 x.kind, .string x.s, .int .i64 x.n, .int .i64 (m : Int)] 34 (0, 0)))
              refine ⟨z0, z1, z2, ?_⟩
              rw [HXA.out]
              exact z3
            rintro e ww ⟨rfl, hkj⟩
            have hk5 := (hk4.alloc _).then hkj
            have b3' := hkj.cell (((Keeps.refl [] wr).alloc (.cells #[.int .i64 x.kind, .string x.s, .int .i64 x.n, .int .i64 (m : Int)] 34 (0, 0))).cell b3 (by simp)) (by simp)
            have hws : (⟨(W k).toArray⟩ : ByteArray).size = (W k).length := by simp [ByteArray.size]
            have hext : (s.extract m (m + (W k).length)).toList = (⟨(W k).toArray⟩ : ByteArray).toList := by
              rw [ByteArray.toList_eq, ByteArray.toList_eq]
              simp only [ByteArray.data_extract, Array.toList_extract, List.extract_eq_take_drop, Nat.add_sub_cancel_left]
              exact htw
            obtain ⟨L, hL⟩ : ∃ L, L = (W k).length := ⟨_, rfl⟩
            obtain ⟨bw, hbw⟩ : ∃ bw : ByteArray, bw = ⟨(W k).toArray⟩ := ⟨_, rfl⟩
            rw [← hbw] at hws hext ⊢
            rw [← hL] at hws hext hat hE'
            clear hlex htw hJ hok b0 b1 b2 b3 hkj hbw hL
            go_wp2_with fail
            exact ⟨⟨k + 1, by omega, by simp, by rw [hE']; simp, hk5⟩, by have h1 := HR.out; simp only [intOf]; omega⟩
          · have hke : k = q := by omega
            subst hke
            obtain ⟨hk0', hms⟩ := HEND.out rfl
            have q1 : IntKind.i64.wrap ((r : Int) - 1) = (k : Int) := (IntWalk.i64_in _ (by have := HR.out; omega)).trans (by have := HR.out; omega)
            rw [hk0'] at b0
            rw [hms] at b3
            go_wp2_with fail
            go_returns
            exact ⟨rfl, hk3.then hk4⟩

end Go.Proofs.YtfoeadiejcheiaaDoor
