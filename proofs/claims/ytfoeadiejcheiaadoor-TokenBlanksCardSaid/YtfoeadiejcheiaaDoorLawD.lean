/- What a []Token that came in is; what lies there from the start. -/
import Derived.Test.YtfoeadiejcheiaaDoorLawC
import Derived.Test.YtfoeadiejcheiaaDoorLaw
import Derived.Deep.Slices
import Derived.Lib.LaidTab
import Derived.Stop.LaidErr
namespace Go.Proofs.YtfoeadiejcheiaaDoor
open Go.ChangeShapes Go.WideShapes Go.ChangeAt Go.RowKit

instance : Inhabited TokR := ⟨⟨0, ⟨#[]⟩, 0, 0⟩⟩

set_option maxRecDepth 100000 in
/-- One token that was read, from its four cells. -/
theorem open_tok {H : Type} {enc : TypeId × Value → H} {W : World} {base n : Nat} {sp : Nat → Bool} {held : Bool} {a : Addr} {x : DataW H × List MemPlace} {cs : List Value}
    (h1 : W.cells? base a 4 = some cs) (h : DataW.trod enc Tryd.prog W base sp held n 34 cs = some x) :
    ∃ y : TokR, x.1 = .agg [.lit (.int .i64 y.kind), .lit (.string y.s.data.toList), .lit (.int .i64 y.n), .lit (.int .i64 y.at_)] ∧ W.cell? (a.add 0) = some (.int .i64 y.kind) ∧ W.cell? (a.add 1) = some (.string y.s) ∧ W.cell? (a.add 2) = some (.int .i64 y.n) ∧ W.cell? (a.add 3) = some (.int .i64 y.at_) ∧ -9223372036854775808 ≤ y.n ∧ y.n ≤ 9223372036854775807 := by
  obtain ⟨_, hlen, hcell⟩ := World.cells?_some h1
  obtain ⟨xs, k, hk, hxy, _, hxl, hf⟩ := DataW.trod_struct Tryd.underlying34 h
  match xs, hxl, cs, hlen with
  | [y0, y1, y2, y3], _, [v0, v1, v2, v3], _ =>
    have g0 := hf 0 _ rfl
    have g1 := hf 1 _ rfl
    have g2 := hf 2 _ rfl
    have g3 := hf 3 _ rfl
    have c0 : Tryd.prog.cellsOf 3 = 1 := by kernel_rfl
    have c1 : Tryd.prog.cellsOf 9 = 1 := by kernel_rfl
    have c2 : Tryd.prog.cellsOf 2 = 1 := by kernel_rfl
    simp at g0 g1 g2 g3
    obtain ⟨z0, e0, r0, _⟩ := DataW.trod_int Tryd.underlying3 g0
    obtain ⟨z1, e1, r1, _⟩ := DataW.trod_string Tryd.underlying9 g1
    obtain ⟨z2, e2, r2, wf2⟩ := DataW.trod_int Tryd.underlying2 g2
    obtain ⟨z3, e3, r3, _⟩ := DataW.trod_int Tryd.underlying3 g3
    cases e0; cases e1; cases e2; cases e3
    subst r0; subst r1; subst r2; subst r3
    have hb : IntKind.i64.min ≤ z2 ∧ z2 ≤ IntKind.i64.max := by simpa [Lit.wf, decide_eq_true_eq] using wf2
    have b1 : IntKind.i64.min = -9223372036854775808 := by decide
    have b2 : IntKind.i64.max = 9223372036854775807 := by decide
    rw [b1, b2] at hb
    exact ⟨⟨z0, z1, z2, z3⟩, congrArg Prod.fst hxy, hcell 0 (by omega), hcell 1 (by omega), hcell 2 (by omega), hcell 3 (by omega), hb⟩

theorem weightsAll_mem {H : Type} {P : Program} {e : TypeId} {N : Nat} : ∀ {ds : List (DataW H)}, (DataW.weightsAll P e ds).all (· ≤ N) = true → ∀ d ∈ ds, (DataW.weights P e d).all (· ≤ N) = true
  | [], _, d, hd => by cases hd
  | x :: r, h, d, hd => by
    simp only [DataW.weightsAll, List.all_append, Bool.and_eq_true] at h
    rcases List.mem_cons.1 hd with rfl | hd
    · exact h.1
    · exact weightsAll_mem h.2 d hd

set_option maxRecDepth 100000 in
/-- What a []Token that came in is. -/
theorem arg_toks {H : Type} {enc : TypeId × Value → H} {W : World} {v : Value} {d : DataW H} {ps : List MemPlace}
    (hw : Value.okWide Tryd.prog W .any 0 22 v) (h : DataW.Trod enc Tryd.prog W 0 (fun _ => true) true 22 v d ps) (hsz : (DataW.weights Tryd.prog 22 d).all (· ≤ reachBytes) = true) :
    ∃ l : List TokR, ArgTok W v l ∧ (∀ x ∈ l, x.ok) ∧ l.length * 40 ≤ 140737488355328 := by
  obtain ⟨ao, n, c, rfl⟩ := okWide_slice Tryd.underlying22 hw
  obtain ⟨fuel, h⟩ := h
  rcases Deep.open_slice Tryd.underlying22 h with ⟨hcs, hx⟩ | ⟨a, len, cap, m, k, D, Pl, hcs, _, hl, hm, hz, hx, hcell⟩
  · simp only [Value.cells, List.cons.injEq, and_true, Value.slice.injEq] at hcs
    obtain ⟨rfl, rfl, rfl⟩ := hcs
    exact ⟨[], ⟨none, 0, rfl, fun _ => ⟨rfl, rfl⟩, fun h => absurd rfl h⟩, by simp, by simp⟩
  · simp only [Value.cells, List.cons.injEq, and_true, Value.slice.injEq] at hcs
    obtain ⟨rfl, rfl, rfl⟩ := hcs
    simp only [if_true] at hz
    subst hz
    have c4 : Tryd.prog.cellsOf 34 = 4 := by kernel_rfl
    have b40 : Tryd.prog.bytesOf 34 = 40 := by kernel_rfl
    rw [c4] at hcell
    have each : ∀ i, i < n → ∃ y : TokR, D i = .agg [.lit (.int .i64 y.kind), .lit (.string y.s.data.toList), .lit (.int .i64 y.n), .lit (.int .i64 y.at_)] ∧ W.cell? ((a.add (i * 4)).add 0) = some (.int .i64 y.kind) ∧ W.cell? ((a.add (i * 4)).add 1) = some (.string y.s) ∧ W.cell? ((a.add (i * 4)).add 2) = some (.int .i64 y.n) ∧ W.cell? ((a.add (i * 4)).add 3) = some (.int .i64 y.at_) ∧ -9223372036854775808 ≤ y.n ∧ y.n ≤ 9223372036854775807 := by
      intro i hi
      obtain ⟨cs', h1, h2⟩ := hcell i (by omega)
      exact open_tok h1 h2
    obtain ⟨q, hq⟩ := Deep.choose_lt each
    have hd : d = .slice ((List.range n).map D) ((List.range (m - n)).map fun j => D (n + j)) := congrArg Prod.fst hx
    subst hd
    simp only [DataW.weights, Tryd.underlying22, List.all_cons, List.all_append, Bool.and_eq_true, b40, List.length_map, List.length_range] at hsz
    have hlen : n * 40 ≤ reachBytes := by
      have h1 : (n + (m - n)) * 40 ≤ reachBytes := of_decide_eq_true hsz.1
      omega
    have hreach : reachBytes = 140737488351232 := by decide
    have hstr : ∀ i, i < n → (q i).s.size ≤ 140737488351232 := by
      intro i hi
      have h1 := weightsAll_mem hsz.2.1 (D i) (List.mem_map.2 ⟨i, List.mem_range.2 hi, rfl⟩)
      rw [(hq i hi).1] at h1
      simp [DataW.weights, DataW.weightsEach, Tryd.underlying34] at h1
      rw [hreach] at h1
      exact h1
    refine ⟨(List.range n).map q, ⟨some a, m, by simp, fun h => (by cases h), fun hne => ?_⟩, fun x hx => ?_, by simp; omega⟩
    · have hn : 0 < n := by
        rcases Nat.eq_zero_or_pos n with h | h
        · subst h; exact absurd rfl hne
        · exact h
      have hs : a.spot = none := by
        have h0 := (hq 0 hn).2.1
        have : (a.add (0 * 4)).add 0 = a := by simp [Addr.add]
        rw [this] at h0
        simp only [World.cell?] at h0
        cases hsp : a.spot with
        | none => rfl
        | some y => simp [hsp] at h0; split at h0 <;> simp_all
      have ha : a = ⟨a.block, a.off, none⟩ := by rw [← hs]
      refine ⟨a.block, a.off, by rw [← ha], fun j x hx => ?_, by simpa using hl, by unfold maxLen at hm; omega⟩
      rw [List.getElem?_map] at hx
      obtain ⟨j', hj', rfl⟩ := Option.map_eq_some_iff.1 hx
      have hjn : j < n := by
        rcases Nat.lt_or_ge j n with h | h
        · exact h
        · rw [List.getElem?_eq_none (by simpa using h)] at hj'; cases hj'
      rw [List.getElem?_range hjn] at hj'
      cases hj'
      obtain ⟨_, h0, h1, h2, h3, _⟩ := hq j hjn
      rw [ha] at h0 h1 h2 h3
      simp only [addr_add, Nat.add_zero] at h0 h1 h2 h3
      exact ⟨h0, h1, h2, h3⟩
    · obtain ⟨i, hi, rfl⟩ := List.mem_map.1 hx
      have hi := List.mem_range.1 hi
      obtain ⟨_, _, _, _, _, h4, h5⟩ := hq i hi
      exact ⟨h4, h5, hstr i hi⟩

end Go.Proofs.YtfoeadiejcheiaaDoor
