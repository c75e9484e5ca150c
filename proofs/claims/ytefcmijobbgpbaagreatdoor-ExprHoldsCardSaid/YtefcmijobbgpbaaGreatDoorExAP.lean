/- Expressions: what the code of chapter 11 computes (ExAR ExHP). Conditions: those of each theorem. -/
import Derived.Test.YtefcmijobbgpbaaGreatDoorExFF
import Derived.Test.YtefcmijobbgpbaaGreatDoorExTN
import Derived.OpenShut

namespace Go.Proofs.YtefcmijobbgpbaaGreatDoor
open Go.ChangeShapes Go.WideShapes Go.ChangeAt Go.RowKit

def evData {H : Type} (y : EvR) : DataW H := .agg [.lit (.string y.key.data.toList), .lit (.string y.typ.data.toList), .agg [.lit (.int .i64 y.n0), .lit (.int .i64 y.n1), .lit (.int .i64 y.n2), .lit (.int .i64 y.n3)], .lit (.string y.text.data.toList)]
def EvR.ok (y : EvR) : Prop := (-9223372036854775808 ≤ y.n0 ∧ y.n0 ≤ 9223372036854775807) ∧ (-9223372036854775808 ≤ y.n1 ∧ y.n1 ≤ 9223372036854775807) ∧ (-9223372036854775808 ≤ y.n2 ∧ y.n2 ≤ 9223372036854775807) ∧ (-9223372036854775808 ≤ y.n3 ∧ y.n3 ≤ 9223372036854775807)

theorem i64_wf {z : Int} (h : (Lit.int .i64 z).wf = true) : -9223372036854775808 ≤ z ∧ z ≤ 9223372036854775807 := by
  have hb : IntKind.i64.min ≤ z ∧ z ≤ IntKind.i64.max := by simpa [Lit.wf, decide_eq_true_eq] using h
  have b1 : IntKind.i64.min = -9223372036854775808 := by decide
  have b2 : IntKind.i64.max = 9223372036854775807 := by decide
  rwa [b1, b2] at hb

set_option maxRecDepth 100000 in
theorem open_ints4 {H : Type} {enc : TypeId × Value → H} {W : World} {base n : Nat} {sp : Nat → Bool} {held : Bool} {x : DataW H × List MemPlace} {cs : List Value} (hlen : cs.length = 4)
    (h : DataW.trod enc Tryz.prog W base sp held n 35 cs = some x) :
    ∃ a b c d : Int, cs = [.int .i64 a, .int .i64 b, .int .i64 c, .int .i64 d] ∧ x.1 = .agg [.lit (.int .i64 a), .lit (.int .i64 b), .lit (.int .i64 c), .lit (.int .i64 d)] ∧ (-9223372036854775808 ≤ a ∧ a ≤ 9223372036854775807) ∧ (-9223372036854775808 ≤ b ∧ b ≤ 9223372036854775807) ∧ (-9223372036854775808 ≤ c ∧ c ≤ 9223372036854775807) ∧ (-9223372036854775808 ≤ d ∧ d ≤ 9223372036854775807) := by
  obtain ⟨xs, m, rfl, hx, _, hl, hf⟩ := DataW.trod_array Tryz.underlying35 h
  have c1 : Tryz.prog.cellsOf 2 = 1 := by kernel_rfl
  rw [c1] at hf
  match xs, hl, cs, hlen with
  | [y0, y1, y2, y3], _, [v0, v1, v2, v3], _ =>
    have g0 := hf 0 (by decide)
    have g1 := hf 1 (by decide)
    have g2 := hf 2 (by decide)
    have g3 := hf 3 (by decide)
    simp at g0 g1 g2 g3
    obtain ⟨z0, e0, r0, wf0⟩ := DataW.trod_int Tryz.underlying2 g0
    obtain ⟨z1, e1, r1, wf1⟩ := DataW.trod_int Tryz.underlying2 g1
    obtain ⟨z2, e2, r2, wf2⟩ := DataW.trod_int Tryz.underlying2 g2
    obtain ⟨z3, e3, r3, wf3⟩ := DataW.trod_int Tryz.underlying2 g3
    cases e0; cases e1; cases e2; cases e3
    subst r0; subst r1; subst r2; subst r3
    exact ⟨z0, z1, z2, z3, rfl, congrArg Prod.fst hx, i64_wf wf0, i64_wf wf1, i64_wf wf2, i64_wf wf3⟩

set_option maxRecDepth 100000 in
theorem open_event {H : Type} {enc : TypeId × Value → H} {W : World} {base n : Nat} {sp : Nat → Bool} {held : Bool} {x : DataW H × List MemPlace} {cs : List Value} (hlen : cs.length = 7)
    (h : DataW.trod enc Tryz.prog W base sp held n 37 cs = some x) : ∃ y : EvR, cs = evCells y ∧ x.1 = evData y ∧ y.ok := by
  obtain ⟨xs, k, hk, hxy, _, hxl, hf⟩ := DataW.trod_struct Tryz.underlying37 h
  match xs, hxl, cs, hlen with
  | [y0, y1, y2, y3], _, [v0, v1, v2, v3, v4, v5, v6], _ =>
    have g0 := hf 0 _ rfl
    have g1 := hf 1 _ rfl
    have g2 := hf 2 _ rfl
    have g3 := hf 3 _ rfl
    simp at g0 g1 g2 g3
    obtain ⟨z0, e0, r0, _⟩ := DataW.trod_string Tryz.underlying9 g0
    obtain ⟨z1, e1, r1, _⟩ := DataW.trod_string Tryz.underlying9 g1
    obtain ⟨a, b, c, d, e2, r2, ha, hb, hc, hd⟩ := open_ints4 rfl g2
    obtain ⟨z3, e3, r3, _⟩ := DataW.trod_string Tryz.underlying9 g3
    cases e0; cases e1; cases e2; cases e3
    subst r0; subst r1; subst r3
    refine ⟨⟨z0, z1, a, b, c, d, z3⟩, rfl, ?_, ha, hb, hc, hd⟩
    have := congrArg Prod.fst hxy
    simp only [List.map_cons, List.map_nil, r2] at this
    exact this

set_option maxRecDepth 100000 in
/-- An event that came in as an argument. -/
theorem arg_event {H : Type} {enc : TypeId × Value → H} {W : World} {v : Value} {d : DataW H} {ps : List MemPlace}
    (hw : Value.okWide Tryz.prog W .any 0 37 v) (h : DataW.Trod enc Tryz.prog W 0 (fun _ => true) true 37 v d ps) :
    ∃ y : EvR, v = .agg #[.string y.key, .string y.typ, .int .i64 y.n0, .int .i64 y.n1, .int .i64 y.n2, .int .i64 y.n3, .string y.text] ∧ y.ok := by
  unfold Value.okWide at hw
  rw [Tryz.underlying37] at hw
  obtain ⟨cs, rfl, hs, _⟩ := hw
  have c7 : Tryz.prog.cellsOf 37 = 7 := by kernel_rfl
  rw [c7] at hs
  obtain ⟨fuel, h⟩ := h
  have hc : (Value.agg cs).cells = cs := rfl
  rw [hc] at h
  obtain ⟨y, hy, _, hok⟩ := open_event (by simpa using hs) h
  refine ⟨y, ?_, hok⟩
  have : cs = (evCells y).toArray := by rw [← hy]
  rw [this]
  rfl

/-- A slice of rows, each of which is one of R's. -/
def RowArg {H α : Type} (W : World) (e : TypeId) (c : Nat) (R : List Value → DataW H → α → Prop) (ao : Option Addr) (cap : Nat) (l : List α) : Prop :=
  (ao = none → cap = 0 ∧ l = []) ∧ (l ≠ [] → ∃ bk o, ao = some ⟨bk, o, none⟩ ∧ l.length ≤ cap ∧ cap ≤ 9223372036854775807 ∧
    ∀ (j : Nat) (y : α), l[j]? = some y → ∃ cs d, cs.length = c ∧ R cs d y ∧ (DataW.weights Tryz.prog e d).all (· ≤ reachBytes) = true ∧ ∀ (i : Nat) (u : Value), cs[i]? = some u → W.cell? ⟨bk, o + j * c + i, none⟩ = some u)

set_option maxRecDepth 100000 in
theorem open_rows {H α : Type} [Inhabited α] {enc : TypeId × Value → H} {W : World} {base fuel : Nat} {t e : TypeId} {c b : Nat} (hu : Tryz.prog.underlying t = some (.slice e)) (hc : Tryz.prog.cellsOf e = c) (hb : Tryz.prog.bytesOf e = b) (h1 : 1 ≤ c)
    {R : List Value → DataW H → α → Prop} (elem : ∀ {n : Nat} {cs : List Value} {x : DataW H × List MemPlace}, cs.length = c → DataW.trod enc Tryz.prog W base (fun _ => true) true n e cs = some x → (DataW.weights Tryz.prog e x.1).all (· ≤ reachBytes) = true → ∃ y, R cs x.1 y)
    {cs : List Value} {x : DataW H × List MemPlace} (h : DataW.trod enc Tryz.prog W base (fun _ => true) true fuel t cs = some x) (hsz : (DataW.weights Tryz.prog t x.1).all (· ≤ reachBytes) = true) :
    ∃ (l : List α) (ao : Option Addr) (cap : Nat), cs = [.slice ao l.length cap] ∧ RowArg W e c R ao cap l ∧ l.length * b ≤ 140737488351232 := by
  rcases Deep.open_slice hu h with ⟨rfl, rfl⟩ | ⟨a, n, cap, m, k, D, Pl, rfl, _, hl, hm, hz, rfl, hcell⟩
  · exact ⟨[], none, 0, rfl, ⟨fun _ => ⟨rfl, rfl⟩, fun h => absurd rfl h⟩, by simp⟩
  · simp only [if_true] at hz
    subst hz
    rw [hc] at hcell
    simp only [DataW.weights, hu, List.all_cons, List.all_append, Bool.and_eq_true, hb, List.length_map, List.length_range] at hsz
    have hreach : reachBytes = 140737488351232 := by decide
    have hlen : n * b ≤ reachBytes := by
      have h1 : (n + (m - n)) * b ≤ reachBytes := of_decide_eq_true hsz.1
      exact Nat.le_trans (Nat.mul_le_mul_right _ (by omega)) h1
    rw [hreach] at hlen
    have each : ∀ i, i < n → ∃ y : α, ∃ cs', cs'.length = c ∧ R cs' (D i) y ∧ (DataW.weights Tryz.prog e (D i)).all (· ≤ reachBytes) = true ∧ ∀ (i' : Nat) (u : Value), cs'[i']? = some u → W.cell? ((a.add (i * c)).add i') = some u := by
      intro i hi
      obtain ⟨cs', g1, g2⟩ := hcell i (by omega)
      obtain ⟨_, gl, gc⟩ := World.cells?_some g1
      have gw := weightsAll_mem hsz.2.1 (D i) (List.mem_map.2 ⟨i, List.mem_range.2 hi, rfl⟩)
      obtain ⟨y, hy⟩ := elem gl g2 gw
      refine ⟨y, cs', gl, hy, gw, fun i' u hu => ?_⟩
      have hi' : i' < c := by
        rcases Nat.lt_or_ge i' c with h | h
        · exact h
        · rw [List.getElem?_eq_none (by omega)] at hu; cases hu
      rw [gc i' hi', hu]
    obtain ⟨q, hq⟩ := Deep.choose_lt each
    refine ⟨(List.range n).map q, some a, m, by simp, ⟨fun h => (by cases h), fun hne => ?_⟩, by simpa using hlen⟩
    have hn : 0 < n := by
      rcases Nat.eq_zero_or_pos n with h | h
      · subst h; exact absurd rfl hne
      · exact h
    have hs : a.spot = none := by
      obtain ⟨cs', gl, _, _, g⟩ := hq 0 hn
      obtain ⟨u, hu⟩ : ∃ u, cs'[0]? = some u := ⟨cs'[0], List.getElem?_eq_getElem (by omega)⟩
      have h0 := g 0 u hu
      have : (a.add (0 * c)).add 0 = a := by simp [Addr.add]
      rw [this] at h0
      simp only [World.cell?] at h0
      cases hsp : a.spot with
      | none => rfl
      | some y => simp [hsp] at h0; split at h0 <;> simp_all
    have ha : a = ⟨a.block, a.off, none⟩ := by rw [← hs]
    refine ⟨a.block, a.off, by rw [← ha], by simpa using hl, by unfold maxLen at hm; omega, fun j y hy => ?_⟩
    rw [List.getElem?_map] at hy
    obtain ⟨j', hj', rfl⟩ := Option.map_eq_some_iff.1 hy
    have hjn : j < n := by
      rcases Nat.lt_or_ge j n with h | h
      · exact h
      · rw [List.getElem?_eq_none (by simpa using h)] at hj'; cases hj'
    rw [List.getElem?_range hjn] at hj'
    cases hj'
    obtain ⟨cs', gl, hR, gw, g⟩ := hq j hjn
    refine ⟨cs', _, gl, hR, gw, fun i u hu => ?_⟩
    have := g i u hu
    rw [ha] at this
    simpa only [addr_add] using this

set_option maxRecDepth 100000 in
/-- What a []Event that came in is. -/
theorem arg_events {H : Type} {enc : TypeId × Value → H} {W : World} {v : Value} {d : DataW H} {ps : List MemPlace}
    (hw : Value.okWide Tryz.prog W .any 0 38 v) (h : DataW.Trod enc Tryz.prog W 0 (fun _ => true) true 38 v d ps) (hsz : (DataW.weights Tryz.prog 38 d).all (· ≤ reachBytes) = true) :
    ∃ l : List EvR, ArgEv W v l ∧ (∀ x ∈ l, x.ok) ∧ l.length * 80 ≤ 140737488355328 := by
  obtain ⟨ao0, n0, c0, rfl⟩ := okWide_slice Tryz.underlying38 hw
  obtain ⟨fuel, h⟩ := h
  obtain ⟨l, ao, cap, he, ⟨hR1, hR2⟩, hl⟩ := open_rows (c := 7) (b := 80) (R := fun cs (_ : DataW H) (y : EvR) => cs = evCells y ∧ y.ok) Tryz.underlying38 (by kernel_rfl) (by kernel_rfl) (by decide) (fun hlen h _ => by obtain ⟨y, h1, _, h3⟩ := open_event hlen h; exact ⟨y, h1, h3⟩) h hsz
  simp only [Value.cells, List.cons.injEq, and_true, Value.slice.injEq] at he
  obtain ⟨rfl, rfl, rfl⟩ := he
  refine ⟨l, ⟨ao0, c0, rfl, hR1, fun hne => ?_⟩, fun x hx => ?_, by omega⟩
  · obtain ⟨bk, o, rfl, h2, h3, h4⟩ := hR2 hne
    refine ⟨bk, o, rfl, fun j y hy => ?_, h2, h3⟩
    obtain ⟨cs, _, _, ⟨rfl, _⟩, _, g⟩ := h4 j y hy
    exact ⟨g 0 _ rfl, g 1 _ rfl, g 2 _ rfl, g 3 _ rfl, g 4 _ rfl, g 5 _ rfl, g 6 _ rfl⟩
  · obtain ⟨j, hj, rfl⟩ := List.mem_iff_getElem.1 hx
    obtain ⟨bk, o, _, _, _, h4⟩ := hR2 (List.ne_nil_of_mem hx)
    obtain ⟨cs, _, _, ⟨_, hok⟩, _⟩ := h4 j l[j] (List.getElem?_eq_getElem hj)
    exact hok

end Go.Proofs.YtefcmijobbgpbaaGreatDoor

namespace Go.Proofs.YtefcmijobbgpbaaGreatDoor
open Go.ChangeShapes Go.WideShapes Go.ChangeAt Go.RowKit

set_option maxRecDepth 100000 in
theorem open_bound {H : Type} {enc : TypeId × Value → H} {W : World} {n : Nat} {x : DataW H × List MemPlace} {cs : List Value} (hlen : cs.length = 2)
    (h : DataW.trod enc Tryz.prog W 0 (fun _ => true) true n 40 cs = some x) (hsz : (DataW.weights Tryz.prog 40 x.1).all (· ≤ reachBytes) = true) :
    ∃ (vn vl : Value) (names : List ByteArray) (last : List EvR), cs = [vn, vl] ∧ ArgStr W vn names ∧ ArgEv W vl last ∧ names.length * 16 ≤ 140737488351232 ∧ last.length * 80 ≤ 140737488351232 := by
  obtain ⟨xs, k, hk, hxy, _, hxl, hf⟩ := DataW.trod_struct Tryz.underlying40 h
  match xs, hxl, cs, hlen with
  | [y0, y1], _, [v0, v1], _ =>
    have g0 := hf 0 _ rfl
    have g1 := hf 1 _ rfl
    have c0 : Tryz.prog.cellsOf 28 = 1 := by kernel_rfl
    have c1 : Tryz.prog.cellsOf 38 = 1 := by kernel_rfl
    simp [c0, c1] at g0 g1
    have hx1 : x.1 = .agg [y0.1, y1.1] := congrArg Prod.fst hxy
    rw [hx1] at hsz
    simp only [DataW.weights, DataW.weightsEach, Tryz.underlying40, List.map_cons, List.map_nil, List.all_append, Bool.and_eq_true] at hsz
    obtain ⟨w0, w1, _⟩ := hsz
    obtain ⟨ln, aon, capn, he, ⟨hR1, hR2⟩, hl⟩ := open_rows (c := 1) (b := 16) (R := fun cs (_ : DataW H) (s : ByteArray) => cs = [.string s]) Tryz.underlying28 (by kernel_rfl) (by kernel_rfl) (by decide) (fun _ h _ => by obtain ⟨z, e, _, _⟩ := DataW.trod_string Tryz.underlying9 h; exact ⟨z, e⟩) g0 w0
    obtain ⟨le, aoe, cape, he2, ⟨hE1, hE2⟩, hl2⟩ := open_rows (c := 7) (b := 80) (R := fun cs (_ : DataW H) (y : EvR) => cs = evCells y ∧ y.ok) Tryz.underlying38 (by kernel_rfl) (by kernel_rfl) (by decide) (fun hlen h _ => by obtain ⟨y, h1, _, h3⟩ := open_event hlen h; exact ⟨y, h1, h3⟩) g1 w1
    simp only [List.cons.injEq, and_true] at he he2
    refine ⟨v0, v1, ln, le, rfl, ⟨aon, capn, he, hR1, fun hne => ?_⟩, ⟨aoe, cape, he2, hE1, fun hne => ?_⟩, hl, hl2⟩
    · obtain ⟨bk, o, rfl, h2, h3, h4⟩ := hR2 hne
      refine ⟨bk, o, rfl, fun j y hy => ?_, h2, h3⟩
      obtain ⟨cs, _, _, rfl, _, g⟩ := h4 j y hy
      have := g 0 _ rfl
      rw [Nat.mul_one, Nat.add_zero] at this
      exact this
    · obtain ⟨bk, o, rfl, h2, h3, h4⟩ := hE2 hne
      refine ⟨bk, o, rfl, fun j y hy => ?_, h2, h3⟩
      obtain ⟨cs, _, _, ⟨rfl, _⟩, _, g⟩ := h4 j y hy
      exact ⟨g 0 _ rfl, g 1 _ rfl, g 2 _ rfl, g 3 _ rfl, g 4 _ rfl, g 5 _ rfl, g 6 _ rfl⟩

set_option maxRecDepth 100000 in
theorem arg_bound {H : Type} {enc : TypeId × Value → H} {W : World} {v : Value} {d : DataW H} {ps : List MemPlace}
    (hw : Value.okWide Tryz.prog W .any 0 40 v) (h : DataW.Trod enc Tryz.prog W 0 (fun _ => true) true 40 v d ps) (hsz : (DataW.weights Tryz.prog 40 d).all (· ≤ reachBytes) = true) :
    ∃ (vn vl : Value) (names : List ByteArray) (last : List EvR), v = .agg #[vn, vl] ∧ ArgStr W vn names ∧ ArgEv W vl last ∧ names.length * 16 ≤ 140737488351232 ∧ last.length * 80 ≤ 140737488351232 := by
  unfold Value.okWide at hw
  rw [Tryz.underlying40] at hw
  obtain ⟨cs, rfl, hs, _⟩ := hw
  have c2 : Tryz.prog.cellsOf 40 = 2 := by kernel_rfl
  rw [c2] at hs
  obtain ⟨fuel, h⟩ := h
  have hc : (Value.agg cs).cells = cs := rfl
  rw [hc] at h
  obtain ⟨vn, vl, names, last, he, h1, h2, h3, h4⟩ := open_bound (by simpa using hs) h hsz
  refine ⟨vn, vl, names, last, ?_, h1, h2, h3, h4⟩
  have : cs = [vn, vl].toArray := by rw [← he]
  rw [this]

end Go.Proofs.YtefcmijobbgpbaaGreatDoor
