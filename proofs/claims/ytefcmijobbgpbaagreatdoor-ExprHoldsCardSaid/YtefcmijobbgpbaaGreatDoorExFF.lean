/- What a []Part that came in is. -/
import Derived.Test.YtefcmijobbgpbaaGreatDoorT5
import Derived.Test.YtefcmijobbgpbaaGreatDoorExA
import Derived.Test.YtefcmijobbgpbaaGreatDoorLaw
import Derived.Deep.Slices
namespace Go.Proofs.YtefcmijobbgpbaaGreatDoor
open Go.ChangeShapes Go.WideShapes Go.ChangeAt Go.RowKit

instance : Inhabited PartR := ⟨⟨0, 0, ⟨#[]⟩, ⟨#[]⟩, 0⟩⟩

set_option maxRecDepth 100000 in
/-- One part that was read, from its five cells. -/
theorem open_part {H : Type} {enc : TypeId × Value → H} {W : World} {base n : Nat} {sp : Nat → Bool} {held : Bool} {a : Addr} {x : DataW H × List MemPlace} {cs : List Value}
    (h1 : W.cells? base a 5 = some cs) (h : DataW.trod enc Tryz.prog W base sp held n 58 cs = some x) :
    ∃ y : PartR, x.1 = .agg [.lit (.int .i64 y.kind), .lit (.int .i64 y.n), .lit (.string y.s.data.toList), .lit (.string y.stage.data.toList), .lit (.int .i64 y.field)] ∧ W.cell? (a.add 0) = some (.int .i64 y.kind) ∧ W.cell? (a.add 1) = some (.int .i64 y.n) ∧ W.cell? (a.add 2) = some (.string y.s) ∧ W.cell? (a.add 3) = some (.string y.stage) ∧ W.cell? (a.add 4) = some (.int .i64 y.field) ∧ -9223372036854775808 ≤ y.n ∧ y.n ≤ 9223372036854775807 := by
  obtain ⟨_, hlen, hcell⟩ := World.cells?_some h1
  obtain ⟨xs, k, hk, hxy, _, hxl, hf⟩ := DataW.trod_struct Tryz.underlying58 h
  match xs, hxl, cs, hlen with
  | [y0, y1, y2, y3, y4], _, [v0, v1, v2, v3, v4], _ =>
    have g0 := hf 0 _ rfl
    have g1 := hf 1 _ rfl
    have g2 := hf 2 _ rfl
    have g3 := hf 3 _ rfl
    have g4 := hf 4 _ rfl
    have c0 : Tryz.prog.cellsOf 3 = 1 := by kernel_rfl
    have c1 : Tryz.prog.cellsOf 9 = 1 := by kernel_rfl
    have c2 : Tryz.prog.cellsOf 2 = 1 := by kernel_rfl
    simp at g0 g1 g2 g3 g4
    obtain ⟨z0, e0, r0, _⟩ := DataW.trod_int Tryz.underlying3 g0
    obtain ⟨z1, e1, r1, wf1⟩ := DataW.trod_int Tryz.underlying2 g1
    obtain ⟨z2, e2, r2, _⟩ := DataW.trod_string Tryz.underlying9 g2
    obtain ⟨z3, e3, r3, _⟩ := DataW.trod_string Tryz.underlying9 g3
    obtain ⟨z4, e4, r4, _⟩ := DataW.trod_int Tryz.underlying3 g4
    cases e0; cases e1; cases e2; cases e3; cases e4
    subst r0; subst r1; subst r2; subst r3; subst r4
    have hb : IntKind.i64.min ≤ z1 ∧ z1 ≤ IntKind.i64.max := by simpa [Lit.wf, decide_eq_true_eq] using wf1
    have b1 : IntKind.i64.min = -9223372036854775808 := by decide
    have b2 : IntKind.i64.max = 9223372036854775807 := by decide
    rw [b1, b2] at hb
    exact ⟨⟨z0, z1, z2, z3, z4⟩, congrArg Prod.fst hxy, hcell 0 (by omega), hcell 1 (by omega), hcell 2 (by omega), hcell 3 (by omega), hcell 4 (by omega), hb⟩

theorem weightsAll_mem {H : Type} {P : Program} {e : TypeId} {N : Nat} : ∀ {ds : List (DataW H)}, (DataW.weightsAll P e ds).all (· ≤ N) = true → ∀ d ∈ ds, (DataW.weights P e d).all (· ≤ N) = true
  | [], _, d, hd => by cases hd
  | x :: r, h, d, hd => by
    simp only [DataW.weightsAll, List.all_append, Bool.and_eq_true] at h
    rcases List.mem_cons.1 hd with rfl | hd
    · exact h.1
    · exact weightsAll_mem h.2 d hd

set_option maxRecDepth 100000 in
/-- What a []Part that came in is. -/
theorem arg_parts {H : Type} {enc : TypeId × Value → H} {W : World} {v : Value} {d : DataW H} {ps : List MemPlace}
    (hw : Value.okWide Tryz.prog W .any 0 22 v) (h : DataW.Trod enc Tryz.prog W 0 (fun _ => true) true 22 v d ps) (hsz : (DataW.weights Tryz.prog 22 d).all (· ≤ reachBytes) = true) :
    ∃ l : List PartR, ArgPart W v l ∧ (∀ x ∈ l, x.ok) ∧ l.length * 56 ≤ 140737488355328 := by
  obtain ⟨ao, n, c, rfl⟩ := okWide_slice Tryz.underlying22 hw
  obtain ⟨fuel, h⟩ := h
  rcases Deep.open_slice Tryz.underlying22 h with ⟨hcs, hx⟩ | ⟨a, len, cap, m, k, D, Pl, hcs, _, hl, hm, hz, hx, hcell⟩
  · simp only [Value.cells, List.cons.injEq, and_true, Value.slice.injEq] at hcs
    obtain ⟨rfl, rfl, rfl⟩ := hcs
    exact ⟨[], ⟨none, 0, rfl, fun _ => ⟨rfl, rfl⟩, fun h => absurd rfl h⟩, by simp, by simp⟩
  · simp only [Value.cells, List.cons.injEq, and_true, Value.slice.injEq] at hcs
    obtain ⟨rfl, rfl, rfl⟩ := hcs
    simp only [if_true] at hz
    subst hz
    have c5 : Tryz.prog.cellsOf 58 = 5 := by kernel_rfl
    have b56 : Tryz.prog.bytesOf 58 = 56 := by kernel_rfl
    rw [c5] at hcell
    have each : ∀ i, i < n → ∃ y : PartR, D i = .agg [.lit (.int .i64 y.kind), .lit (.int .i64 y.n), .lit (.string y.s.data.toList), .lit (.string y.stage.data.toList), .lit (.int .i64 y.field)] ∧ W.cell? ((a.add (i * 5)).add 0) = some (.int .i64 y.kind) ∧ W.cell? ((a.add (i * 5)).add 1) = some (.int .i64 y.n) ∧ W.cell? ((a.add (i * 5)).add 2) = some (.string y.s) ∧ W.cell? ((a.add (i * 5)).add 3) = some (.string y.stage) ∧ W.cell? ((a.add (i * 5)).add 4) = some (.int .i64 y.field) ∧ -9223372036854775808 ≤ y.n ∧ y.n ≤ 9223372036854775807 := by
      intro i hi
      obtain ⟨cs', h1, h2⟩ := hcell i (by omega)
      exact open_part h1 h2
    obtain ⟨q, hq⟩ := Deep.choose_lt each
    have hd : d = .slice ((List.range n).map D) ((List.range (m - n)).map fun j => D (n + j)) := congrArg Prod.fst hx
    subst hd
    simp only [DataW.weights, Tryz.underlying22, List.all_cons, List.all_append, Bool.and_eq_true, b56, List.length_map, List.length_range] at hsz
    have hlen : n * 56 ≤ reachBytes := by
      have h1 : (n + (m - n)) * 56 ≤ reachBytes := of_decide_eq_true hsz.1
      omega
    have hreach : reachBytes = 140737488351232 := by decide
    have hstr : ∀ i, i < n → (q i).s.size ≤ 140737488351232 ∧ (q i).stage.size ≤ 140737488351232 := by
      intro i hi
      have h1 := weightsAll_mem hsz.2.1 (D i) (List.mem_map.2 ⟨i, List.mem_range.2 hi, rfl⟩)
      rw [(hq i hi).1] at h1
      simp [DataW.weights, DataW.weightsEach, Tryz.underlying58] at h1
      rw [hreach] at h1
      exact h1
    refine ⟨(List.range n).map q, ⟨some a, m, by simp, fun h => (by cases h), fun hne => ?_⟩, fun x hx => ?_, by simp; omega⟩
    · have hn : 0 < n := by
        rcases Nat.eq_zero_or_pos n with h | h
        · subst h; exact absurd rfl hne
        · exact h
      have hs : a.spot = none := by
        have h0 := (hq 0 hn).2.1
        have : (a.add (0 * 5)).add 0 = a := by simp [Addr.add]
        rw [this] at h0
        simp only [World.cell?] at h0
        cases hsp : a.spot with
        | none => rfl
        | some y => simp [hsp] at h0; split at h0 <;> simp_all
      have ha : a = ⟨a.block, a.off, none⟩ := by rw [← hs]
      refine ⟨a.block, a.off, by rw [← ha], fun j x hx => ?_, by simpa using hl, by unfold maxLen at hm; omega⟩
      rw [List.getElem?_map] at hx
      obtain ⟨j', hj', rfl⟩ := Option.map_eq_some_iff.1 hx
      have hjn : j < n := by
        rcases Nat.lt_or_ge j n with h | h
        · exact h
        · rw [List.getElem?_eq_none (by simpa using h)] at hj'; cases hj'
      rw [List.getElem?_range hjn] at hj'
      cases hj'
      obtain ⟨_, h0, h1, h2, h3, h4, _⟩ := hq j hjn
      rw [ha] at h0 h1 h2 h3 h4
      simp only [addr_add, Nat.add_zero] at h0 h1 h2 h3 h4
      exact ⟨h0, h1, h2, h3, h4⟩
    · obtain ⟨i, hi, rfl⟩ := List.mem_map.1 hx
      have hi := List.mem_range.1 hi
      obtain ⟨_, _, _, _, _, _, h4, h5⟩ := hq i hi
      exact ⟨h4, h5, (hstr i hi).1, (hstr i hi).2⟩

end Go.Proofs.YtefcmijobbgpbaaGreatDoor
