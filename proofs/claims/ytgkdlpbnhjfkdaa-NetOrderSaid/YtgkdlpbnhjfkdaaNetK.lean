/- The walk of NetOrder. Conditions: those of each theorem. -/
import Derived.Test.YtgkdlpbnhjfkdaaNetJ
namespace Go.Proofs.Ytgkdlpbnhjfkdaa
open Go.RowKit

def queue (L : List ByteArray) (p k : Nat) : List Pk := ((L.take k).drop p).map fun s => (0, s)

theorem queue_push (L : List ByteArray) (p k : Nat) (s : ByteArray) (hp : p ≤ k) (h : L[k]? = some s) : queue L p (k + 1) = queue L p k ++ [(0, s)] := by
  obtain ⟨hk, he⟩ := List.getElem?_eq_some_iff.1 h
  unfold queue
  rw [List.take_succ_eq_append_getElem hk, List.drop_append_of_le_length (by simp; omega), he]
  simp
theorem queue_pop (L : List ByteArray) (p k : Nat) (s : ByteArray) (hp : p < k) (h : L[p]? = some s) : queue L p k = (0, s) :: queue L (p + 1) k := by
  obtain ⟨hk, he⟩ := List.getElem?_eq_some_iff.1 h
  unfold queue
  have : p < (L.take k).length := by simp; omega
  rw [List.drop_eq_getElem_cons this]
  simp [he]
theorem queue_end (L : List ByteArray) (p : Nat) : queue L p p = [] := by
  unfold queue
  rw [List.drop_eq_nil_of_le (by simp; omega)]; rfl
theorem queue_len (L : List ByteArray) (p k : Nat) : (queue L p k).length ≤ k := by
  unfold queue; simp; omega

set_option maxRecDepth 100000 in
set_option maxHeartbeats 2000000 in
theorem netOrder_any (aoL aoT : Option Addr) (nL cL nT cT lb lo tb to : Nat) (L : List ByteArray) (T : List Int) (W : World) (hnL : L.length = nL) (hnT : T.length = nT) (hbL : nL ≤ 9223372036854775807) (hbT : nT ≤ 9223372036854775807)
    (hL : ∀ (k : Nat) (s : ByteArray), L[k]? = some s → aoL = some ⟨lb, lo, none⟩ ∧ W.cell? ⟨lb, lo + k, none⟩ = some (.string s) ∧ s.size ≤ 9223372036854775807)
    (hT : ∀ (k : Nat) (x : Int), T[k]? = some x → aoT = some ⟨tb, to, none⟩ ∧ W.cell? ⟨tb, to + k, none⟩ = some (.int .i64 x) ∧ -9223372036854775808 ≤ x ∧ x ≤ 9223372036854775807) :
    Calls Try.prog 3 #[.slice aoL nL cL, .slice aoT nT cT] W fun e w' => e = .returned (.bool true) ∧ Keeps [] W w' := by
  have HL := Lib.hid hL
  have HT := Lib.hid hT
  have HnL := Lib.hid hnL
  have HnT := Lib.hid hnT
  clear hL hT hnL hnT
  go_enter Try.func3, Try.ntmps3
  go_wp2_with fail
  refine (new_in W).mono ?_
  rintro e w1 ⟨rfl, hn1⟩
  go_wp2_with fail
  refine (works_any w1).mono ?_
  rintro e w2 ⟨rfl, hk2⟩
  have hn2 := hn1.keep hk2
  clear hn1 hk2
  go_wp2_with fail
  go_loopw [7, 8, 9] (fun at_ nx i wr => ∃ p k : Nat, p ≤ k ∧ k ≤ nL ∧ k ≤ 100 ∧ at_ = .int .i64 p ∧ nx = .int .i64 k ∧ i = .int .i64 k ∧ NetIn W wr (W.heap.size + 1) W.heap.size (queue L p k)) (fun _ _ i _ => nL - (intOf i).toNat)
  case atStart => exact ⟨0, 0, by omega, by omega, by omega, rfl, rfl, rfl, hn2⟩
  case round =>
    obtain ⟨p, k, hpk, hk, hk100, rfl, rfl, rfl, hin⟩ := hrel
    clear hn2 w2 w1
    by_cases hlt : k < nL
    · by_cases hlt2 : k < 100
      · have hkl : k < L.length := by rw [HnL.out]; exact hlt
        obtain ⟨e0, hc0, hsz⟩ := HL.out k L[k] (List.getElem?_eq_getElem hkl)
        have hq := queue_push L p k L[k] hpk (List.getElem?_eq_getElem hkl)
        generalize L[k] = s at *
        subst e0
        have hc := hin.old.cell hc0 (by simp)
        clear hc0
        by_cases hs : 1000 < s.size
        · go_wp2_with fail
          go_ret
          exact ⟨rfl, hin.old⟩
        · have Hq := Lib.hid hq
          clear hq
          go_wp2_with fail
          refine (send_in s hin (by omega) (by have := queue_len L p k; omega)).mono ?_
          rintro e w3 ⟨rfl, hn3⟩
          rw [← Hq.out] at hn3
          clear Hq hin
          have e56 : IntKind.i64.wrap ((k : Int) + 1) = (k : Int) + 1 := IntWalk.i64_in _ (by omega)
          by_cases hT : k < nT
          · have hkT : k < T.length := by rw [HnT.out]; exact hT
            obtain ⟨e0, hc0, hx1, hx2⟩ := HT.out k T[k] (List.getElem?_eq_getElem hkT)
            generalize T[k] = x at *
            subst e0
            have hcT := hn3.old.cell hc0 (by simp)
            clear hc0 e56
            have hm0 : 0 ≤ x % 3 := Int.emod_nonneg _ (by omega)
            have hm1 : x % 3 < 3 := Int.emod_lt_of_pos _ (by omega)
            go_wp2_with fail
            refine (among_any x 3 w3 (by omega) (by omega) hx1 hx2).mono ?_
            rintro e w4 ⟨rfl, rfl⟩
            generalize x % 3 = m at *
            go_wp2_with fail
            obtain ⟨wo, rfl⟩ : ∃ wo : World, wo = wr := ⟨_, rfl⟩
            go_loopw [67, 7] (fun j at_ wr => ∃ (j' : Int) (p' : Nat), 0 ≤ j' ∧ j' ≤ m ∧ j = .int .i64 j' ∧ p' ≤ k + 1 ∧ at_ = .int .i64 p' ∧ NetIn W wr (W.heap.size + 1) W.heap.size (queue L p' (k + 1))) (fun j _ _ => (m - intOf j).toNat)
            case atStart => exact ⟨0, p, by omega, hm0, rfl, by omega, rfl, hn3⟩
            case round =>
              obtain ⟨j', p', hj0, hjm, rfl, hpk', rfl, hin'⟩ := hrel
              clear hn3 hc hcT
              by_cases hjl : j' < m
              · by_cases hpl : p' < k + 1
                · have hpL : p' < L.length := by rw [HnL.out]; omega
                  obtain ⟨_, hc0, hsz'⟩ := HL.out p' L[p'] (List.getElem?_eq_getElem hpL)
                  have hq := queue_pop L p' (k + 1) L[p'] hpl (List.getElem?_eq_getElem hpL)
                  generalize L[p'] = s' at *
                  rw [hq] at hin'
                  clear hq
                  go_wp2_with fail
                  refine (take_in hin').mono ?_
                  rintro e w5 ⟨rfl, hn5⟩
                  have hc5 := hn5.old.cell hc0 (by simp)
                  clear hin' hc0
                  go_wp2_with fail
                  go_roundw
                  case rel => exact ⟨j' + 1, p' + 1, by omega, by omega, rfl, by omega, by go_num, hn5⟩
                  case measure => simp [intOf]; omega
                · go_wp2_with fail
                  go_roundw
                  case rel => exact ⟨j' + 1, p', by omega, by omega, rfl, by omega, rfl, hin'⟩
                  case measure => simp [intOf]; omega
              · go_wp2_with fail
                go_roundw
                case rel => exact ⟨p', k + 1, by omega, by omega, by omega, rfl, by go_num, by go_num, hin'⟩
                case measure => simp [intOf]; omega
          · clear e56
            go_wp2_with fail
            go_roundw
            case rel => exact ⟨p, k + 1, by omega, by omega, by omega, rfl, by go_num, by go_num, hn3⟩
            case measure => simp [intOf]; omega
      · go_wp2_with fail
        go_loopw [7] (fun at_ wr => ∃ p : Nat, p ≤ k ∧ at_ = .int .i64 p ∧ NetIn W wr (W.heap.size + 1) W.heap.size (queue L p k)) (fun at_ _ => k - (intOf at_).toNat)
        case atStart => exact ⟨p, hpk, rfl, hin⟩
        case round =>
          obtain ⟨p', hpk', rfl, hin'⟩ := hrel
          clear hin
          by_cases hpl : p' < k
          · have hpL : p' < L.length := by rw [HnL.out]; omega
            obtain ⟨e0, hc0, hsz⟩ := HL.out p' L[p'] (List.getElem?_eq_getElem hpL)
            have hq := queue_pop L p' k L[p'] hpl (List.getElem?_eq_getElem hpL)
            generalize L[p'] = s at *
            subst e0
            rw [hq] at hin'
            clear hq
            go_wp2_with fail
            refine (take_in hin').mono ?_
            rintro e w4 ⟨rfl, hn4⟩
            have hc4 := hn4.old.cell hc0 (by simp)
            clear hin' hc0
            go_wp2_with fail
            go_roundw
            case rel => exact ⟨p' + 1, by omega, by go_num, hn4⟩
            case measure => simp [intOf]; omega
          · have e0 : p' = k := by omega
            rw [e0, queue_end] at hin'
            clear e0
            go_wp2_with fail
            refine (take_none hin').mono ?_
            rintro e w4 ⟨rfl, hn4⟩
            go_wp2_with fail
            go_ret
            exact ⟨rfl, hn4.old⟩
    · go_wp2_with fail
      go_loopw [7] (fun at_ wr => ∃ p : Nat, p ≤ k ∧ at_ = .int .i64 p ∧ NetIn W wr (W.heap.size + 1) W.heap.size (queue L p k)) (fun at_ _ => k - (intOf at_).toNat)
      case atStart => exact ⟨p, hpk, rfl, hin⟩
      case round =>
        obtain ⟨p', hpk', rfl, hin'⟩ := hrel
        clear hin
        by_cases hpl : p' < k
        · have hpL : p' < L.length := by rw [HnL.out]; omega
          obtain ⟨e0, hc0, hsz⟩ := HL.out p' L[p'] (List.getElem?_eq_getElem hpL)
          have hq := queue_pop L p' k L[p'] hpl (List.getElem?_eq_getElem hpL)
          generalize L[p'] = s at *
          subst e0
          rw [hq] at hin'
          clear hq
          go_wp2_with fail
          refine (take_in hin').mono ?_
          rintro e w4 ⟨rfl, hn4⟩
          have hc4 := hn4.old.cell hc0 (by simp)
          clear hin' hc0
          go_wp2_with fail
          go_roundw
          case rel => exact ⟨p' + 1, by omega, by go_num, hn4⟩
          case measure => simp [intOf]; omega
        · have e0 : p' = k := by omega
          rw [e0, queue_end] at hin'
          clear e0
          go_wp2_with fail
          refine (take_none hin').mono ?_
          rintro e w4 ⟨rfl, hn4⟩
          go_wp2_with fail
          go_ret
          exact ⟨rfl, hn4.old⟩

end Go.Proofs.Ytgkdlpbnhjfkdaa
