/- What a []Act that came in is. No conditions but that it is one. -/
import Derived.Test.YtgkdlpbnhjfkdaaRefI
import Derived.Test.YtgkdlpbnhjfkdaaLaw
namespace Go.Proofs.Ytgkdlpbnhjfkdaa
open Go.ChangeShapes Go.WideShapes Go.ChangeAt Go.RowKit

theorem wf_i64 {n : Int} (h : (Lit.int .i64 n).wf = true) : -9223372036854775808 ≤ n ∧ n ≤ 9223372036854775807 := by
  have h2 : IntKind.i64.min ≤ n ∧ n ≤ IntKind.i64.max := by simpa [Lit.wf, decide_eq_true_eq] using h
  have e1 : IntKind.i64.min = -9223372036854775808 := by decide
  have e2 : IntKind.i64.max = 9223372036854775807 := by decide
  rw [e1, e2] at h2
  exact h2

section
variable {H : Type} {enc : TypeId × Value → H}

theorem open_act {W : World} {base : Nat} {sp : Nat → Bool} {held : Bool} {m : Nat} {cs : List Value} {y : DataW H × List MemPlace} (hl : cs.length = 5)
    (h : DataW.trod enc Try.prog W base sp held m 40 cs = some y) : ∃ q : ActV, cs = q.cells.toList ∧ q.ok := by
  obtain ⟨xs, n, rfl, rfl, _, hlen, hf⟩ := DataW.trod_struct Try.underlying40 h
  have hc3 : Try.prog.cellsOf 3 = 1 := by kernel_rfl
  have hc9 : Try.prog.cellsOf 9 = 1 := by kernel_rfl
  match cs, hl with
  | [c0, c1, c2, c3, c4], _ =>
    match xs, hlen with
    | [x0, x1, x2, x3, x4], _ =>
      have h0 := hf 0 _ rfl
      have h1 := hf 1 _ rfl
      have h2 := hf 2 _ rfl
      have h3 := hf 3 _ rfl
      have h4 := hf 4 _ rfl
      simp [hc3, hc9] at h0 h1 h2 h3 h4
      obtain ⟨k, e0, _, w0⟩ := DataW.trod_int Try.underlying3 h0
      obtain ⟨f, e1, _, w1⟩ := DataW.trod_int Try.underlying3 h1
      obtain ⟨t, e2, _, w2⟩ := DataW.trod_int Try.underlying3 h2
      obtain ⟨i, e3, _, w3⟩ := DataW.trod_int Try.underlying3 h3
      obtain ⟨b, e4, _, w4⟩ := DataW.trod_string Try.underlying9 h4
      simp at e0 e1 e2 e3 e4
      subst e0 e1 e2 e3 e4
      exact ⟨⟨k, f, t, i, b⟩, rfl, wf_i64 w0, wf_i64 w1, wf_i64 w2, wf_i64 w3, w4⟩

theorem arg_acts {W : World} {v : Value} {d : DataW H} {ps : List MemPlace} (hw : Value.okWide Try.prog W .any 0 34 v) (h : DataW.Trod enc Try.prog W 0 (fun _ => true) true 34 v d ps) :
    ∃ (ao : Option Addr) (n c b o : Nat) (L : List ActV), v = .slice ao n c ∧ L.length = n ∧ n ≤ maxLen ∧ ∀ (k : Nat) (q : ActV), L[k]? = some q → ao = some ⟨b, o, none⟩ ∧ (∀ j, j < 5 → W.cell? ⟨b, o + k * 5 + j, none⟩ = q.cells[j]?) ∧ q.ok := by
  obtain ⟨ao, n, c, rfl⟩ := okWide_slice Try.underlying34 hw
  obtain ⟨fuel, h⟩ := h
  have hc : Try.prog.cellsOf 40 = 5 := by kernel_rfl
  rcases DataW.trod_slice Try.underlying34 h with ⟨hcs, hx⟩ | ⟨a, len, cap, elems, rest, m, _, hcs, _, hb, hl, hm, hlen, hel, _, _⟩
  · simp only [Value.cells, List.cons.injEq, and_true, Value.slice.injEq] at hcs
    obtain ⟨rfl, rfl, rfl⟩ := hcs
    exact ⟨none, 0, 0, 0, 0, [], rfl, rfl, Nat.zero_le _, by simp⟩
  · simp only [Value.cells, List.cons.injEq, and_true, Value.slice.injEq] at hcs
    obtain ⟨rfl, rfl, rfl⟩ := hcs
    have each : ∀ i, i < n → ∃ q : ActV, a.spot = none ∧ (∀ j, j < 5 → W.cell? ⟨a.block, a.off + i * 5 + j, none⟩ = q.cells[j]?) ∧ q.ok := by
      intro i hi
      have h1 := hel i hi
      rw [hc, List.getElem?_eq_getElem (by omega), Option.bind_eq_some_iff] at h1
      obtain ⟨cs, h2, h3⟩ := h1
      obtain ⟨_, hl5, hcell⟩ := World.cells?_some h2
      obtain ⟨q, hq, hok⟩ := open_act hl5 h3
      have hs : a.spot = none := by
        have g1 := hel 0 (by omega)
        rw [hc, List.getElem?_eq_getElem (by omega), Option.bind_eq_some_iff] at g1
        obtain ⟨ds, g2, g3⟩ := g1
        obtain ⟨_, gl5, gcell⟩ := World.cells?_some g2
        have h0 := gcell 0 (by omega)
        rw [Addr.add_add, List.getElem?_eq_getElem (by omega)] at h0
        exact World.cell?_spot (a := a) (by simpa [Addr.add] using h0)
      refine ⟨q, hs, fun j hj => ?_, hok⟩
      have h4 := hcell j hj
      rw [hq, Addr.add_add] at h4
      obtain ⟨ab, af, sp⟩ := a
      cases hs
      rw [addr_add] at h4
      rw [Array.getElem?_toList] at h4
      have e : af + i * 5 + j = af + (i * 5 + j) := by omega
      rw [e]
      exact h4
    let L : List ActV := (List.range n).map fun i => if h : i < n then (each i h).choose else ⟨0, 0, 0, 0, ByteArray.empty⟩
    refine ⟨some a, n, c, a.block, a.off, L, rfl, by simp [L], by omega, fun k q hk => ?_⟩
    have hkn : k < n := by
      have := (List.getElem?_eq_some_iff.1 hk).1
      simpa [L] using this
    have hq : (each k hkn).choose = q := by
      simp only [L, List.getElem?_map, List.getElem?_range hkn, Option.map_some, dif_pos hkn, Option.some.injEq] at hk
      exact hk
    have hsp := (each k hkn).choose_spec
    rw [hq] at hsp
    obtain ⟨ab, af, sp⟩ := a
    have := hsp.1
    cases this
    exact ⟨rfl, hsp.2.1, hsp.2.2⟩
end

end Go.Proofs.Ytgkdlpbnhjfkdaa
