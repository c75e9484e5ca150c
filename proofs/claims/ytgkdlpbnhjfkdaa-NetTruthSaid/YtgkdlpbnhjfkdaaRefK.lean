/- The walk of NetPlays. Conditions: none but that the argument is a []Act. -/
import Derived.Test.YtgkdlpbnhjfkdaaRefJ
import Derived.Test.YtgkdlpbnhjfkdaaRegion3
namespace Go.Proofs.Ytgkdlpbnhjfkdaa
open Go.RowKit

theorem ints_eq : ∀ (l : List Int), l.length = 4 → ∀ w, (binOp .neq 41 (.agg (l.map (.int .i64)).toArray) (.agg (l.map (.int .i64)).toArray)).run Try.prog w = .ok (.bool false) w := by
  intro l hl w
  match l, hl with
  | [p, q, r, s], _ =>
    go_simp
    have hc : Try.prog.cellsOf 3 = 1 := by kernel_rfl
    have hp : ∀ (xs : Array Value) (i : Nat) (v : Value) w, xs[i]? = some v → (part 3 xs i).run Try.prog w = .ok v w := fun xs i v w h => run_part_plain w (by kernel_rfl) h
    have he : ∀ (v : Int) w, (Op.equalIn 9999 3 (.int .i64 v) (.int .i64 v)).run Try.prog w = .ok true w := by
      have g : ∀ (d : Nat) (v : Int) w, (Op.equalIn (d + 1) 3 (.int .i64 v) (.int .i64 v)).run Try.prog w = .ok true w := by
        intro d v w
        simp [Op.equalIn, run_underlying Try.underlying3]
      exact g 9998
    have h : (Op.equalIn 10000 41 (.agg #[.int .i64 p, .int .i64 q, .int .i64 r, .int .i64 s]) (.agg #[.int .i64 p, .int .i64 q, .int .i64 r, .int .i64 s])).run Try.prog w = .ok true w := by
      obtain ⟨i, hi⟩ := Option.isSome_iff_exists.1 (by kernel_rfl : (Try.prog.info? 3).isSome = true)
      rw [run_equalIn_array w 9999 _ _ Try.underlying41 hi, hc]
      have hr : List.range 4 = [0, 1, 2, 3] := rfl
      have h0 := fun w => hp #[.int .i64 p, .int .i64 q, .int .i64 r, .int .i64 s] 0 (.int .i64 p) w rfl
      have h1 := fun w => hp #[.int .i64 p, .int .i64 q, .int .i64 r, .int .i64 s] 1 (.int .i64 q) w rfl
      have h2 := fun w => hp #[.int .i64 p, .int .i64 q, .int .i64 r, .int .i64 s] 2 (.int .i64 r) w rfl
      have h3 := fun w => hp #[.int .i64 p, .int .i64 q, .int .i64 r, .int .i64 s] 3 (.int .i64 s) w rfl
      rw [hr]
      simp only [Op.eqItems, Sem.run_bind, Nat.zero_mul, Nat.one_mul, Nat.mul_one, h0, h1, h2, h3, he, Result.andThen_ok, Bool.not_true, Bool.false_eq_true, if_false, Sem.run_pure]
    rw [h]
    rfl

theorem two_cells {W w : World} {a t r s : Nat} {to c to2 c2 X} (h : Two W w a t r s to c to2 c2 X) : c2.length = 4 ∧ ∀ j, j < 4 → w.cell? ⟨r, 1 + j, none⟩ = some (.int .i64 (c2.getD j 0)) := by
  obtain ⟨v, v2, h1, h2, h3, h4, h5, h6, h7⟩ := h
  exact ⟨h2.hc, fun j hj => h2.cell_c (by omega)⟩

theorem four_cells (l : List Int) (hl : l.length = 4) : ∃ p q r s, l = [p, q, r, s] := by
  match l, hl with
  | [p, q, r, s], _ => exact ⟨p, q, r, s, rfl⟩

set_option maxRecDepth 100000 in
set_option maxHeartbeats 2000000 in
theorem netPlays_yes (N : Nat) (hN1 : 1 ≤ N) (hN2 : N ≤ 17) (ao : Option Addr) (n cp b o : Nat) (L : List ActV) (W : World) (hl : L.length = n) (hm : n ≤ maxLen)
    (hL : ∀ (k : Nat) (q : ActV), L[k]? = some q → ao = some ⟨b, o, none⟩ ∧ (∀ j, j < 5 → W.cell? ⟨b, o + k * 5 + j, none⟩ = q.cells[j]?) ∧ q.ok) :
    Calls Try.prog 4 #[.int .i64 N, .slice ao n cp] W fun e w' => e = .returned (.bool true) ∧ Keeps [] W w' := by
  have hm' : n ≤ 9223372036854775807 := by simp only [maxLen] at hm; omega
  have HL := Lib.hid hL
  clear hL hm
  go_enter Try.func4, Try.ntmps4
  go_wp2_with fail
  refine (new_at N W hN1 hN2).mono ?_
  rintro e w1 ⟨rfl, hn1⟩
  go_wp2_with fail
  refine (new_two2 N hn1 hN1 hN2).mono ?_
  rintro e w2 ⟨rfl, hn2⟩
  have hS0 : Short (List.replicate N ([] : List Pk)) := by
    intro l hl q hq
    rw [List.mem_replicate] at hl
    rw [hl.2] at hq
    cases hq
  have hz : (IntKind.i64.wrap 0 == IntKind.i64.wrap 0) = true := by decide
  go_wp2_with fail
  generalize w1.heap.size = s at *
  generalize hA : W.heap.size + 1 = a at *
  generalize hT : W.heap.size = t at *
  clear hn1 hz hN1 hN2
  generalize List.replicate N ([] : List Pk) = to0 at *
  generalize ([0, 0, 0, 0] : List Int) = c0 at *
  go_loopw [9] (fun i wr => ∃ (k : Nat) (to : List (List Pk)) (c : List Int), k ≤ n ∧ k ≤ 300 ∧ i = .int .i64 k ∧ Short to ∧ Two W wr a t (s + 1) s to c to c []) (fun i _ => 300 - (intOf i).toNat)
  case atStart => exact ⟨0, to0, c0, Nat.zero_le _, Nat.zero_le _, rfl, hS0, hn2⟩
  case round =>
    obtain ⟨k, to, c, hk, hk3, rfl, hS, hW⟩ := hrel
    clear hS0 hn2
    clear w2
    by_cases hkn : k < n
    · by_cases hk300 : k < 300
      · have d1 : decide ((k : Int) < (n : Int)) = true := by simp; omega
        have d2 : decide ((k : Int) < 300) = true := by simp; omega
        have b0 : (0 : Int) ≤ (k : Int) := by omega
        have b1 : (k : Int) < (n : Int) := by omega
        have hq0 : L[k]? = some L[k] := List.getElem?_eq_getElem (by omega)
        generalize L[k] = q at *
        obtain ⟨rfl, hcell, hok⟩ := HL.out k q hq0
        have Hst := Lib.hid (step_any q hok hS (hW.keep (Keeps.refl _ _).drew))
        have HS := Lib.hid (stepM_short (c := c) (q := q) hS)
        obtain ⟨p0, p1, p2, p3, p4⟩ : W.cell? ⟨b, o + k * 5, none⟩ = some (.int .i64 q.k) ∧ W.cell? ⟨b, o + k * 5 + 1, none⟩ = some (.int .i64 q.fr) ∧ W.cell? ⟨b, o + k * 5 + 2, none⟩ = some (.int .i64 q.x) ∧ W.cell? ⟨b, o + k * 5 + 3, none⟩ = some (.int .i64 q.i) ∧ W.cell? ⟨b, o + k * 5 + 4, none⟩ = some (.string q.b) := ⟨hcell 0 (by omega), hcell 1 (by omega), hcell 2 (by omega), hcell 3 (by omega), hcell 4 (by omega)⟩
        have hold := hW.old
        replace p0 := hold.cell p0 (by simp)
        replace p1 := hold.cell p1 (by simp)
        replace p2 := hold.cell p2 (by simp)
        replace p3 := hold.cell p3 (by simp)
        replace p4 := hold.cell p4 (by simp)
        have hcl := Lib.hid hcell
        clear hcell hq0 hold hS hok
        go_wp2_with fail
        refine wp_region_switch (fun w' => w'.cell? ⟨b, o + k * 5, none⟩ = some (.int .i64 q.k) ∧ w'.cell? ⟨b, o + k * 5 + 1, none⟩ = some (.int .i64 q.fr) ∧ w'.cell? ⟨b, o + k * 5 + 2, none⟩ = some (.int .i64 q.x) ∧ w'.cell? ⟨b, o + k * 5 + 3, none⟩ = some (.int .i64 q.i) ∧ w'.cell? ⟨b, o + k * 5 + 4, none⟩ = some (.string q.b)) [] [6] [(0, 0), (1, 0), (2, 0), (3, 0), (4, 0), (5, 1), (6, 4), (7, 0), (8, 0), (9, 0), (11, 0), (12, 0), (13, 0), (14, 1), (10, 2), (15, 0), (16, 0)] (by kernel_rfl) (by kernel_rfl) (fun _ d _ _ _ h => by cases d <;> exact h) (by go_simp) ?_
        repeat (first
          | (refine wpD_pure (v := ?_) rfl (by rfl) ?_ ?_
             rotate_left 1
             · (intro w; go_simp; try with_reducible rfl)
             try simp only [Act.put, List.setIfInBounds_toArray, List.set_cons_zero, List.set_cons_succ, List.getElem_toArray, List.getElem_cons_succ, List.getElem_cons_zero])
          | (refine wpD_held (v := ?_) rfl (by rfl) ?_ ?_
             rotate_left 1
             · (rintro w ⟨hs0, hs1, hs2, hs3, hs4⟩; go_simp; try with_reducible rfl)
             try simp only [Act.put, List.setIfInBounds_toArray, List.set_cons_zero, List.set_cons_succ, List.getElem_toArray, List.getElem_cons_succ, List.getElem_cons_zero]))
        refine wpD_switch rfl (by rfl) (fun K hK => ?_)
        go_simp
        refine Hst.out.mono ?_
        rintro e w3 ⟨rfl, hW3, _⟩
        clear p0 p1 p2 p3 p4 hcl Hst
        have hS := HS.out
        clear HS hW
        generalize (stepM to c q).1 = to' at *
        generalize (stepM to c q).2 = c' at *
        obtain ⟨hl4, hcc⟩ := two_cells hW3
        obtain ⟨z0, z1, z2, z3, rfl⟩ := four_cells c' hl4
        have hcl := Lib.hid (two_counts hW3)
        have hne := ints_eq [z0, z1, z2, z3] rfl
        refine hK _ _ (fun w' => w'.cell? ⟨s + 1, 1, none⟩ = some (.int .i64 z0) ∧ w'.cell? ⟨s + 1, 2, none⟩ = some (.int .i64 z1) ∧ w'.cell? ⟨s + 1, 3, none⟩ = some (.int .i64 z2) ∧ w'.cell? ⟨s + 1, 4, none⟩ = some (.int .i64 z3)) ⟨hcc 0 (by omega), hcc 1 (by omega), hcc 2 (by omega), hcc 3 (by omega)⟩ ?_
        clear hK K hcc hW3
        simp only [List.map_cons, List.map_nil] at hne
        repeat (first
          | (refine wpD_pure (v := ?_) rfl (by rfl) ?_ ?_
             rotate_left 1
             · (intro w; go_simp; try with_reducible rfl)
             try simp only [Act.put, List.setIfInBounds_toArray, List.set_cons_zero, List.set_cons_succ, List.getElem_toArray, List.getElem_cons_succ, List.getElem_cons_zero])
          | (refine wpD_held (v := ?_) rfl (by rfl) ?_ ?_
             rotate_left 1
             · (rintro w ⟨hs1, hs2, hs3, hs4⟩; go_simp; try with_reducible rfl)
             try simp only [Act.put, List.setIfInBounds_toArray, List.set_cons_zero, List.set_cons_succ, List.getElem_toArray, List.getElem_cons_succ, List.getElem_cons_zero]))
        refine wpD_step rfl (by rfl) (fun K hK => ?_)
        go_simp
        refine hcl.out.mono ?_
        rintro e w4 ⟨rfl, hW4⟩
        clear hcl
        obtain ⟨_, hcc⟩ := two_cells hW4
        refine hK _ _ ⟨hcc 0 (by omega), hcc 1 (by omega), hcc 2 (by omega), hcc 3 (by omega)⟩ ?_
        clear hK K hcc
        repeat (first
          | (refine wpD_pure (v := ?_) rfl (by rfl) ?_ ?_
             rotate_left 1
             · (intro w; go_simp; try with_reducible rfl)
             try simp only [Act.put, List.setIfInBounds_toArray, List.set_cons_zero, List.set_cons_succ, List.getElem_toArray, List.getElem_cons_succ, List.getElem_cons_zero])
          | (refine wpD_held (v := ?_) rfl (by rfl) ?_ ?_
             rotate_left 1
             · (rintro w ⟨hs1, hs2, hs3, hs4⟩; go_simp; try with_reducible rfl)
             try simp only [Act.put, List.setIfInBounds_toArray, List.set_cons_zero, List.set_cons_succ, List.getElem_toArray, List.getElem_cons_succ, List.getElem_cons_zero]))
        refine wpD_nil ?_
        have HF : Hid (∃ (k' : Nat) (to : List (List Pk)) (c : List Int), k' ≤ n ∧ k' ≤ 300 ∧ Value.int .i64 ((k : Int) + 1) = .int .i64 k' ∧ Short to ∧ Two W w4 a t (s + 1) s to c to c []) := Lib.hid ⟨k + 1, to', [z0, z1, z2, z3], by omega, by omega, by simp, hS, hW4⟩
        clear hW4 hS hne HL
        have wr1 : IntKind.i64.wrap ((k : Int) + 1) = (k : Int) + 1 := IntWalk.i64_in _ (by omega)
        go_wp2_with fail
        exact ⟨HF.out, by simp only [intOf]; omega⟩
      · have hk3' : k = 300 := by omega
        have d1 : decide ((k : Int) < (n : Int)) = true := by simp; omega
        have d2 : decide ((k : Int) < 300) = false := by simp; omega
        go_wp2_with fail
        refine (works_any wr).mono ?_
        rintro e w3 ⟨rfl, hk3⟩
        have hold := hW.old.then hk3
        clear hW hk3 HL
        go_wp2_with fail
        go_ret
        exact ⟨rfl, hold⟩
    · have d1 : decide ((k : Int) < (n : Int)) = false := by simp; omega
      go_wp2_with fail
      refine (works_any wr).mono ?_
      rintro e w3 ⟨rfl, hk3⟩
      have hold := hW.old.then hk3
      clear hW hk3 HL
      go_wp2_with fail
      go_ret
      exact ⟨rfl, hold⟩


set_option maxRecDepth 100000 in
set_option maxHeartbeats 2000000 in
theorem netPlays_no (N : Int) (hN : N < 1 ∨ 17 < N) (ao : Option Addr) (n cp : Nat) (W : World) :
    Calls Try.prog 4 #[.int .i64 N, .slice ao n cp] W fun e w' => e = .returned (.bool true) ∧ Keeps [] W w' := by
  go_enter Try.func4, Try.ntmps4
  go_wp2_with fail
  refine (new_no N W hN).mono ?_
  rintro e w1 ⟨rfl, rfl⟩
  go_wp2_with fail
  refine (ref_new_no N W hN).mono ?_
  rintro e w1 ⟨rfl, rfl⟩
  have hk := Keeps.refl [] W
  go_wp2_with fail
  go_loopw [9] (fun i wr => i = .int .i64 0 ∧ Keeps [] W wr) (fun i _ => 0)
  case atStart => exact ⟨rfl, hk⟩
  case round =>
    obtain ⟨rfl, hW⟩ := hrel
    clear hk
    go_wp2_with fail
    refine (works_any wr).mono ?_
    rintro e w3 ⟨rfl, hk3⟩
    have hold := hW.then hk3
    clear hW hk3
    go_wp2_with fail
    go_ret
    exact ⟨rfl, hold⟩

theorem netPlays_any (N : Int) (ao : Option Addr) (n cp b o : Nat) (L : List ActV) (W : World) (hl : L.length = n) (hm : n ≤ maxLen)
    (hL : ∀ (k : Nat) (q : ActV), L[k]? = some q → ao = some ⟨b, o, none⟩ ∧ (∀ j, j < 5 → W.cell? ⟨b, o + k * 5 + j, none⟩ = q.cells[j]?) ∧ q.ok) :
    Calls Try.prog 4 #[.int .i64 N, .slice ao n cp] W fun e w' => e = .returned (.bool true) ∧ Keeps [] W w' := by
  by_cases h : N < 1 ∨ 17 < N
  · exact netPlays_no N h ao n cp W
  · obtain ⟨M, rfl⟩ : ∃ M : Nat, (M : Int) = N := ⟨N.toNat, by omega⟩
    exact netPlays_yes M (by omega) (by omega) ao n cp b o L W hl hm hL

end Go.Proofs.Ytgkdlpbnhjfkdaa
