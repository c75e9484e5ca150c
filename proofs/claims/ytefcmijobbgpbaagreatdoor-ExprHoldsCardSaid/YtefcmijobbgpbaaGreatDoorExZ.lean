/- Parse, of tokens that came out of a text. Conditions: those of each theorem. -/
import Derived.Test.YtefcmijobbgpbaaGreatDoorExY
import Derived.Test.YtefcmijobbgpbaaGreatDoorExS
namespace Go.Proofs.YtefcmijobbgpbaaGreatDoor
open Go.RowKit

theorem join_single {x : TokR} {a : List UInt8} (h : wtn x = some a) (hk : x.kind ≠ 0) : joinM [x] = .ok a := by
  have hl := wtn_len h
  unfold joinM
  simp only [List.getLast?_singleton]
  rw [if_neg hk, core_all (by simp) (show wrAll [x] = some [a] by simp [wrAll, h])]
  rw [if_neg (by simp [joinW]; omega)]
  rfl

theorem toks_single {s : ByteArray} {xs : List (Tok × Nat)} (h : toksOf s = .ok xs) : xs.length ≤ 4096 ∧ ∀ q ∈ xs, (tokR q).kind ≠ 0 ∧ (tokR q).ok ∧ ∃ a, joinM [tokR q] = .ok a := by
  unfold toksOf at h
  obtain ⟨ts, h1, h2, h3⟩ := lexAll_words (by simp) h
  have hxl : xs.length = ts.length := by have := congrArg List.length h1; simpa using this
  refine ⟨by omega, fun q hq => ?_⟩
  have hm : q.1 ∈ ts.map (·.2) := by rw [← h1]; exact List.mem_map.2 ⟨q, hq, rfl⟩
  obtain ⟨p, hp, he⟩ := List.mem_map.1 hm
  obtain ⟨hlex, hwr⟩ := h2 p hp
  have hb := lexOne_bounds hlex
  rw [he] at hwr hb
  have hk : (tokR q).kind ≠ 0 := by simp only [tokR]; omega
  have hw : wtn (tokR q) = some p.1 := by simpa [wtn, tokR] using hwr
  refine ⟨hk, ⟨?_, ?_, ?_⟩, p.1, join_single hw hk⟩
  · simp only [tokR]; omega
  · simp only [tokR]; have := hb.1; omega
  · simp only [tokR, ByteArray.size, List.size_toArray]; have := hb.2.1; omega

/-! ### What is read is no greater than what is read from -/
theorem numP_ok {t : TokR} (h : t.ok) : (numP t.n).ok := ⟨h.1, h.2.1, by simp [numP, ByteArray.size], by simp [numP, ByteArray.size]⟩
theorem textP_ok {t : TokR} (h : t.ok) : (textP t.s).ok := ⟨by simp [textP], by simp [textP], h.2.2, by simp [textP, ByteArray.size]⟩
theorem fieldP_ok {t : TokR} (h : t.ok) (f : Int) : (fieldP t.s f).ok := ⟨by simp [fieldP], by simp [fieldP], by simp [fieldP, ByteArray.size], h.2.2⟩
theorem fieldP_ok0 (f : Int) : (fieldP ⟨#[]⟩ f).ok := ⟨by simp [fieldP], by simp [fieldP], by simp [fieldP, ByteArray.size], by simp [fieldP, ByteArray.size]⟩
theorem opP_ok (k : Int) : (opP k).ok := ⟨by simp [opP], by simp [opP], by simp [opP, ByteArray.size], by simp [opP, ByteArray.size]⟩

theorem runM_ok {l : List TokR} (hl : ∀ k, (tokAt l k).ok) : ∀ (f : Nat) (s : Option (List PartR)) (n k deep : Nat) {x : List PartR} {k' : Nat}, runM l f s n k deep = .ok x k' → (∀ y, s = some y → ∀ p ∈ y, p.ok) → ∀ p ∈ x, p.ok
  | 0, s, n, k, deep, x, k', h, _ => by simp [runM] at h
  | f + 1, some y, n, k, deep, x, k', h, hs => by
    simp only [runM] at h
    split at h
    · cases h
      exact hs _ rfl
    · split at h
      · cases h
      · rename_i z k1 hz
        have i1 := runM_ok hl f none _ _ _ hz (fun y h => by cases h)
        have i2 : ∀ (c : Int), ∀ p ∈ opP c :: (y ++ z), p.ok := fun c p hp => by
          rcases List.mem_cons.1 hp with rfl | hp
          · exact opP_ok _
          · rcases List.mem_append.1 hp with hp | hp
            · exact hs _ rfl p hp
            · exact i1 p hp
        split at h
        · cases h
          exact i2 _
        · exact runM_ok hl f (some _) _ _ _ h (fun y' h' => by cases h'; exact i2 _)
  | f + 1, none, n, k, deep, x, k', h, _ => by
    have one : ∀ {q : PartR}, q.ok → ∀ p ∈ [q], p.ok := fun hq p hp => by simp at hp; subst hp; exact hq
    simp only [runM] at h
    split at h
    · split at h
      · cases h
        exact one (numP_ok (hl _))
      · split at h
        · cases h
          exact one (textP_ok (hl _))
        · split at h
          · unfold wordR at h
            split at h
            · cases h
              exact one (fieldP_ok0 _)
            · split at h
              · cases h
              · split at h
                · cases h
                · split at h
                  · cases h
                    exact one (fieldP_ok (hl _) _)
                  · cases h
          · split at h
            · cases h
            · split at h
              · cases h
              · split at h
                · cases h
                · rename_i y k1 hy
                  have i1 := runM_ok hl f none _ _ _ hy (fun y h => by cases h)
                  split at h
                  · cases h
                  · cases h
                    exact i1
    · split at h
      · split at h
        · split at h
          · cases h
          · split at h
            · cases h
            · rename_i y k1 hy
              have i1 := runM_ok hl f none _ _ _ hy (fun y h => by cases h)
              cases h
              intro p hp
              rcases List.mem_cons.1 hp with rfl | hp
              · exact opP_ok _
              · exact i1 p hp
        · exact runM_ok hl f none _ _ _ h (fun y h => by cases h)
      · split at h
        · cases h
        · rename_i y k1 hy
          have i1 := runM_ok hl f none _ _ _ hy (fun y h => by cases h)
          exact runM_ok hl f (some _) _ _ _ h (fun y' h' => by cases h'; exact i1)

theorem partsRow_at : ∀ (l : List PartR) (j : Nat) (x : PartR), l[j]? = some x → (partsRow l)[j * 5]? = some (.int .i64 x.kind) ∧ (partsRow l)[j * 5 + 1]? = some (.int .i64 x.n) ∧ (partsRow l)[j * 5 + 2]? = some (.string x.s) ∧ (partsRow l)[j * 5 + 3]? = some (.string x.stage) ∧ (partsRow l)[j * 5 + 4]? = some (.int .i64 x.field)
  | [], j, x, h => by simp at h
  | y :: l, 0, x, h => by
    cases h
    exact ⟨rfl, rfl, rfl, rfl, rfl⟩
  | y :: l, j + 1, x, h => by
    have ih := partsRow_at l j x (by simpa using h)
    rw [partsRow_one]
    have e : (partRow y).length = 5 := rfl
    have e0 : (j + 1) * 5 = 5 + j * 5 := by omega
    rw [e0]
    have g : ∀ i, (partRow y ++ partsRow l)[5 + i]? = (partsRow l)[i]? := fun i => by rw [List.getElem?_append_right (by omega), e, Nat.add_sub_cancel_left]
    refine ⟨by rw [g]; exact ih.1, ?_, ?_, ?_, ?_⟩
    · rw [Nat.add_assoc, g]; exact ih.2.1
    · rw [Nat.add_assoc, g]; exact ih.2.2.1
    · rw [Nat.add_assoc, g]; exact ih.2.2.2.1
    · rw [Nat.add_assoc, g]; exact ih.2.2.2.2

theorem own_parts {w : World} {base cp n : Nat} {ao : Option Addr} {L : List PartR} (h : w.ownsRow base 58 5 (.slice ao n cp) n (partsRow L)) (hn : L.length = n) : ArgPart w (.slice ao n cp) L := by
  subst hn
  refine ⟨ao, cp, rfl, fun h0 => ?_, fun hne => ?_⟩
  · rcases h.2 with ⟨he, h0'⟩ | ⟨g, cap, cur, he, _⟩
    · obtain ⟨_, _, e3⟩ := Value.slice.inj he
      exact ⟨e3, List.eq_nil_of_length_eq_zero h0'⟩
    · rw [h0] at he
      obtain ⟨e1, _, _⟩ := Value.slice.inj he
      cases e1
  · rcases h.2 with ⟨he, h0'⟩ | ⟨g, cap, cur, he, hb, hg, hnc, hm, _, _⟩
    · exact absurd (List.eq_nil_of_length_eq_zero h0') hne
    · cases he
      refine ⟨g, 0, rfl, fun j x hx => ?_, hnc, by unfold maxLen at hm; exact hm⟩
      obtain ⟨h0, h1, h2, h3, h4⟩ := partsRow_at L j x hx
      have g0 := h.cells rfl _ _ h0
      have g1 := h.cells rfl _ _ h1
      have g2 := h.cells rfl _ _ h2
      have g3 := h.cells rfl _ _ h3
      have g4 := h.cells rfl _ _ h4
      rw [addr_add] at g0 g1 g2 g3 g4
      exact ⟨g0, g1, g2, g3, g4⟩

/-- What Parse is handed by Read. -/
structure ParseIn (W : World) (bk o n cap : Nat) (l : List TokR) (sz : Int) : Prop where
  glob : GlobX W
  toks : TokSl W bk o l
  len : l.length = n + 1
  few : n ≤ 4096
  room : n + 1 ≤ cap
  big : cap ≤ 9223372036854775807
  ok : ∀ x ∈ l, x.ok
  last : tokAt l n = ⟨0, ⟨#[]⟩, 0, sz⟩
  good : ∀ k, k < n → (tokAt l k).kind ≠ 0 ∧ joinC (joinM [tokAt l k]) = 0

theorem pin_cells {W w : World} {bk o n cap : Nat} {l : List TokR} {sz : Int} (c : ParseIn W bk o n cap l sz) (hk : Keeps [] W w) {k : Nat} (h : k < n + 1) :
    w.cell? ⟨bk, o + k * 4, none⟩ = some (.int .i64 (tokAt l k).kind) ∧ w.cell? ⟨bk, o + k * 4 + 1, none⟩ = some (.string (tokAt l k).s) ∧ w.cell? ⟨bk, o + k * 4 + 2, none⟩ = some (.int .i64 (tokAt l k).n) ∧ w.cell? ⟨bk, o + k * 4 + 3, none⟩ = some (.int .i64 (tokAt l k).at_) := by
  obtain ⟨h0, h1, h2, h3⟩ := c.toks k (tokAt l k) (tokAt_some (by rw [c.len]; exact h))
  exact ⟨hk.cell h0 (by simp), hk.cell h1 (by simp), hk.cell h2 (by simp), hk.cell h3 (by simp)⟩

def parseFuel (n : Nat) : Nat := 8 * (n + 1) + 7

theorem ParseIn.tok_ok {W : World} {bk o n cap : Nat} {l : List TokR} {sz : Int} (c : ParseIn W bk o n cap l sz) (k : Nat) : (tokAt l k).ok := by
  by_cases h : k < l.length
  · exact c.ok _ (List.mem_of_getElem? (tokAt_some h))
  · unfold tokAt
    rw [List.getD_eq_getElem?_getD, List.getElem?_eq_none (by omega)]
    exact ⟨by simp [endTok], by simp [endTok], by simp [endTok, ByteArray.size]⟩

theorem fault_block {w : World} {B : Nat} {a b : Value} {t : TypeId} (h : w.heap[B]? = some (.cells #[a, b] t)) : w.cell? ⟨B, 0, none⟩ = some a ∧ w.cell? ⟨B, 1, none⟩ = some b ∧ w.frozen? ⟨B, 0, none⟩ = false ∧ w.frozen? ⟨B, 1, none⟩ = false := by
  simp [World.cell?, World.frozen?, h]

/-- What Parse answers. -/
def ParseOut (l : List TokR) (n : Nat) (B : Nat) (e : Ending) (w' : World) : Prop :=
  match runM l (parseFuel n) none 0 0 0 with
  | .stuck a => e = .returned (.tuple #[.slice none 0 0, .int .i64 0, .agg #[.int .i64 a, .int .i64 110]])
  | .ok x k' => match wholeM x with
    | none => e = .returned (.tuple #[.slice none 0 0, .int .i64 0, .agg #[.int .i64 0, .int .i64 110]])
    | some _ => ∃ ao q cp, e = .returned (.tuple #[.slice ao q cp, .int .i64 k', .agg #[.int .i64 0, .int .i64 0]]) ∧ x.length = q ∧ w'.ownsRow B 58 5 (.slice ao q cp) q (partsRow x)

theorem ret_two_cell {P : Program} {fn : Func} {R : Ending → World → Prop} {a : Act} {w : World} {u v p : Tmp} {ty : TypeId} (h : fn.results = #[.tmp u, .tmp v, .cell p ty]) (g : Nat) (t : TypeId) (cs : Array Value) (fr : Nat × Nat) (d : TypeDesc)
    (hp : a.tmps.getD p undef = .pointer (some ⟨g, 0, none⟩)) (hg : w.heap[g]? = some (.cells cs t fr))
    (hu : P.underlying ty = some d) (hd : (match d with | .struct _ | .array _ _ => true | _ => false) = true) (hi : (P.info? ty).map (·.size) = some cs.size) (hdf : a.defers = [])
    (hR : R (.returned (.tuple #[a.tmps.getD u undef, a.tmps.getD v undef, .agg cs])) w) : bodyPost P fn R .ret a w := by
  refine bodyPost_ret (v := .tuple #[a.tmps.getD u undef, a.tmps.getD v undef, .agg cs]) ?_ hdf hR
  have hp' : a.tmps[p]?.getD undef = .pointer (some ⟨g, 0, none⟩) := by simpa using hp
  simp [results, h, hp', asAddr, run_loadVar_row w g t ty cs fr d hg hu hd hi]

set_option maxHeartbeats 8000000 in
set_option maxRecDepth 100000 in
theorem parse_any {w : World} {bk o n cap : Nat} {l : List TokR} {sz : Int} (c : ParseIn w bk o n cap l sz) :
    Calls Tryz.prog 39 #[.slice (some ⟨bk, o, none⟩) (n + 1) cap] w fun e w' => ParseOut l n w.heap.size e w' ∧ Keeps [] w w' := by
  have HC := Lib.hid c
  have EQ := Lib.hid run_eqIn_tok
  have GD := Lib.hid tok_guard
  have hn4 := c.few
  have hka := (Keeps.refl [] w).alloc (.cells #[.int .i64 0, .int .i64 0] 49 (0, 0))
  have hT4 := heap_alloc_new w (.cells #[.int .i64 0, .int .i64 0] 49 (0, 0))
  have d1 : decide ((n : Int) > 4096) = false := by simp; omega
  obtain ⟨e0, _, _, _⟩ := pin_cells c hka (k := n) (by omega)
  rw [c.last] at e0
  simp only at e0
  have b0 : (0 : Int) ≤ (n : Int) := by omega
  have b1 : (n : Int) < (n : Int) + 1 := by omega
  clear c
  go_enter Tryz.func39, Tryz.ntmps39
  go_wp2_with fail
  obtain ⟨w1, hw1⟩ : ∃ w1, w1 = w.alloc (.cells #[.int .i64 0, .int .i64 0] 49 (0, 0)) := ⟨_, rfl⟩
  have hw1s : w.heap.size < w1.heap.size := by rw [hw1]; simp
  rw [← hw1] at hka hT4 e0 ⊢
  clear hw1
  go_loopw [31] (fun i wr => ∃ j : Nat, j ≤ n ∧ i = .int .i64 j ∧ Keeps [] w1 wr) (fun i _ => n + 1 - (intOf i).toNat)
  case atStart => exact ⟨0, Nat.zero_le _, rfl, Keeps.refl [] w1⟩
  case round =>
    obtain ⟨j, hjn, rfl, hk⟩ := hrel
    have d2 : decide ((j : Int) < (n : Int) + 1) = true := by simp; omega
    have bj : (j : Int) < (n : Int) + 1 := by omega
    obtain ⟨c0, c1, c2, c3⟩ := pin_cells HC.out (hka.then hk) (k := j) (by omega)
    by_cases hlt : j < n
    · have hg := HC.out.good j hlt
      have hokj := HC.out.ok (tokAt l j) (List.mem_of_getElem? (tokAt_some (by rw [HC.out.len]; omega)))
      have d3 : ((j : Int) == (n : Int)) = false := by rw [beq_eq_false_iff_ne]; omega
      generalize tokAt l j = t at *
      obtain ⟨tk, ts, tn, ta⟩ := t
      simp only at c0 c1 c2 c3 hg
      have d4 : (tk == 0) = false := by rw [beq_eq_false_iff_ne]; exact hg.1
      have HG1 := Lib.hid (HC.out.glob.keep (hka.then hk))
      have hkT := (Keeps.refl [] wr).alloc (.cells #[.int .i64 tk, .string ts, .int .i64 tn, .int .i64 ta] 91 (0, 0))
      have hkT2 := hkT.alloc (.cells #[.int .i64 tk, .string ts, .int .i64 tn, .int .i64 ta] 91 (0, 0))
      have HJ := Lib.hid (join_form (l := [⟨tk, ts, tn, ta⟩]) (v := .slice (some ⟨(wr.alloc (.cells #[.int .i64 tk, .string ts, .int .i64 tn, .int .i64 ta] 91 (0, 0))).heap.size, 0, none⟩) 1 1) _ (HG1.out.glob.keep hkT2) (by intro x hx; simp at hx; subst hx; exact hokj) (argTok_new (wr.alloc (.cells #[.int .i64 tk, .string ts, .int .i64 tn, .int .i64 ta] 91 (0, 0))) tk tn ta ts))
      rw [hg.2] at HJ
      have hsz : (wr.alloc (.cells #[.int .i64 tk, .string ts, .int .i64 tn, .int .i64 ta] 91 (0, 0))).heap.size = wr.heap.size + 1 := by simp
      rw [hsz] at HJ
      generalize joinS (joinM [⟨tk, ts, tn, ta⟩]) = js at *
      clear hg hokj hsz
      go_wp2_with (go_at_call 27; refine HJ.out.mono ?_; rintro e w3 ⟨rfl, hk3⟩; have hb7 := hk3.heap (alloc_old (heap_alloc_new wr (.cells #[.int .i64 tk, .string ts, .int .i64 tn, .int .i64 ta] 91 (0, 0))) _) (by simp); obtain ⟨z0, z1, z2, z3, _, _, _, _⟩ := tok_block hb7)
      exact ⟨⟨j + 1, by omega, by simp, hk.then (hkT2.then hk3)⟩, by simp only [intOf]; omega⟩
    · have hje : j = n := by omega
      subst hje
      have d3 : ((j : Int) == (j : Int)) = true := by simp
      rw [HC.out.last] at c0 c1 c2 c3
      simp only at c0 c1 c2 c3
      go_wp2_with fail
      have hkT := (Keeps.refl [] wr).alloc (.cells #[.int .i64 0, .string ⟨#[]⟩, .int .i64 0, .int .i64 sz] 91 (0, 0))
      obtain ⟨W0, hW0⟩ : ∃ W0, W0 = wr.alloc (.cells #[.int .i64 0, .string ⟨#[]⟩, .int .i64 0, .int .i64 sz] 91 (0, 0)) := ⟨_, rfl⟩
      rw [← hW0] at hkT ⊢
      have hk0 := hk.then hkT
      clear hW0 hkT hk c0 c1 c2 c3 d2 d3 hlt
      refine (operations_any W0).mono ?_
      rintro e W1 ⟨rfl, hW1⟩
      have hOps : OpsAt W1 W0.heap.size := by rw [hW1]; exact heap_alloc_new W0 _
      have hk1 : Keeps [] w1 W1 := by rw [hW1]; exact hk0.alloc _
      have hs1 : W0.heap.size < W1.heap.size := by rw [hW1]; simp
      clear hW1 hk0
      have hkw1 := hka.then hk1
      have hCtx : RdCtx W1 W1.heap.size bk o (j + 1) cap W0.heap.size l := ⟨HC.out.glob.keep hkw1, fun i x hx => by
        obtain ⟨h0, h1, h2, h3⟩ := HC.out.toks i x hx
        exact ⟨hkw1.cell h0 (by simp), hkw1.cell h1 (by simp), hkw1.cell h2 (by simp), hkw1.cell h3 (by simp)⟩, hOps, Nat.le_refl _, HC.out.len, by omega, by omega, HC.out.room, HC.out.big, HC.out.ok, by rw [Nat.add_sub_cancel, HC.out.last]⟩
      obtain ⟨O, hO⟩ : ∃ O, O = W0.heap.size := ⟨_, rfl⟩
      rw [← hO] at hCtx hOps hs1 ⊢
      have HCX := Lib.hid hCtx
      have hkR := (Keeps.refl [] W1).alloc (.cells #[.slice (some ⟨bk, o, none⟩) (j + 1) cap, .int .i64 0, .int .i64 0, .slice (some ⟨O, 0, none⟩) 9 9] 118 (0, 0))
      have hRd : RdAt (W1.alloc (.cells #[.slice (some ⟨bk, o, none⟩) (j + 1) cap, .int .i64 0, .int .i64 0, .slice (some ⟨O, 0, none⟩) 9 9] 118 (0, 0))) W1.heap.size bk o (j + 1) cap O 0 0 := heap_alloc_new W1 _
      have HRD := Lib.hid hRd
      clear hCtx hOps hO hRd
      go_wp2_with fail
      have EQF := Lib.hid run_eqIn_fault
      have GDF := Lib.hid fault_guard
      have hkRf := hk1.then hkR
      have hTl := hT4
      have hne : ¬ w.heap.size = W1.heap.size := by have := hk1.size; omega
      have hne2 : ¬ W1.heap.size = w.heap.size := fun e => hne e.symm
      cases hx : runM l (parseFuel j) none 0 0 0 with
      | stuck a =>
        have HX := Lib.hid hx
        refine (read_stuck HCX.out hkR HRD.out (f := parseFuel j) (by unfold parseFuel; omega) hx).mono ?_
        rintro e w5 ⟨rfl, hk5⟩
        have hb4 := hk5.heap (hkRf.heap hT4 (by simp)) (by simp; exact hne)
        obtain ⟨z0, z1, y0, y1⟩ := fault_block hb4
        have hkZ : Keeps [] w w5 := (hka.then hkRf).trans hk5 (by intro x hx hlt; simp at hx; have := (hka.then hk1).size; omega)
        clear hx hT4 hTl hkR hkRf hk5 HRD
        go_wp2_with fail
        obtain ⟨W6, hW6⟩ : ∃ W6, W6 = (w5.setCell ⟨w.heap.size, 0, none⟩ (.int .i64 a)).setCell ⟨w.heap.size, 1, none⟩ (.int .i64 110) := ⟨_, rfl⟩
        have hb6 : W6.heap[w.heap.size]? = some (.cells #[.int .i64 a, .int .i64 110] 49 (0, 0)) := by rw [hW6]; exact set2_block hb4 _ _
        have hk6 : Keeps [] w W6 := by rw [hW6]; exact (hkZ.setCell (.inr (Nat.le_refl _)) _).setCell (.inr (Nat.le_refl _)) _
        rw [← hW6]
        clear hW6 z0 z1 y0 y1 hb4 hkZ
        obtain ⟨z0, z1, y0, y1⟩ := fault_block hb6
        refine wp_region_chain (fun W' => W'.cell? ⟨w.heap.size, 0, none⟩ = some (.int .i64 a) ∧ W'.cell? ⟨w.heap.size, 1, none⟩ = some (.int .i64 110)) [3] [(0, 1), (1, 0), (2, 0), (3, 3)] (by kernel_rfl) (by kernel_rfl) (fun _ d _ _ _ h => by cases d <;> exact h) ⟨show W6.drew.cell? _ = _ from z0, show W6.drew.cell? _ = _ from z1⟩ ?_
        repeat (first
          | (refine wpC_pure (v := ?_) rfl (by rfl) ?_ ?_
             rotate_left 1
             · (intro w; go_simp; try with_reducible rfl)
             try simp only [Act.put, List.setIfInBounds_toArray, List.set_cons_zero, List.set_cons_succ, List.getElem_toArray, List.getElem_cons_succ, List.getElem_cons_zero])
          | (refine wpC_held (v := ?_) rfl (by rfl) ?_ ?_
             rotate_left 1
             · (rintro w ⟨hs0, hs1⟩; go_simp; try with_reducible rfl)
             try simp only [Act.put, List.setIfInBounds_toArray, List.set_cons_zero, List.set_cons_succ, List.getElem_toArray, List.getElem_cons_zero]))
        refine wpC_last rfl (by rfl) (fun K hK => ?_)
        go_simp
        refine hK _ _ ?_
        clear hK K
        try simp only [Act.put, List.setIfInBounds_toArray, List.set_cons_zero, List.set_cons_succ, List.getElem_toArray, List.getElem_cons_succ, List.getElem_cons_zero]
        refine wpC_nil ?_
        go_wp2_with fail
        refine ret_two_cell rfl w.heap.size _ _ _ _ rfl (set2_block hb6 _ _) Tryz.underlying49 rfl (by kernel_rfl) rfl ?_
        refine ⟨by unfold ParseOut; rw [HX.out]; rfl, ((hk6.setCell (.inr (Nat.le_refl _)) _).setCell (.inr (Nat.le_refl _)) _).drew⟩
      | ok x k' =>
        have HX := Lib.hid hx
        have hxok := runM_ok (fun k => HC.out.tok_ok k) (parseFuel j) none 0 0 0 hx (fun y h => by cases h)
        refine (read_ok HCX.out hkR HRD.out (f := parseFuel j) (by unfold parseFuel; omega) hx).mono ?_
        rintro e w5 ⟨⟨ao, q, cp, rfl, hq, hown, hr5⟩, hk5⟩
        have hb4 := hk5.heap (hkRf.heap hT4 (by simp)) (by simp; exact hne)
        obtain ⟨z0, z1, y0, y1⟩ := fault_block hb4
        have hkZ : Keeps [] w w5 := (hka.then hkRf).trans hk5 (by intro x hx hlt; simp at hx; have := (hka.then hk1).size; omega)
        have hge : ∀ b, Value.ownBlock (.slice ao q cp) = some b → w.heap.size < b := fun b hb => by have h1 := own_ge hown hb; have h2 := hkRf.size; omega
        have hkRs : w.heap.size + 1 ≤ (W1.alloc (.cells #[.slice (some ⟨bk, o, none⟩) (j + 1) cap, .int .i64 0, .int .i64 0, .slice (some ⟨O, 0, none⟩) 9 9] 118 (0, 0))).heap.size := by have := hkRf.size; omega
        have HQ := Lib.hid hq
        have HXO := Lib.hid hxok
        clear hx hT4 hTl hkR hkRf hk5 HRD hq hxok
        go_wp2_with fail
        obtain ⟨W6, hW6⟩ : ∃ W6, W6 = (w5.setCell ⟨w.heap.size, 0, none⟩ (.int .i64 0)).setCell ⟨w.heap.size, 1, none⟩ (.int .i64 0) := ⟨_, rfl⟩
        have hb6 : W6.heap[w.heap.size]? = some (.cells #[.int .i64 0, .int .i64 0] 49 (0, 0)) := by rw [hW6]; exact set2_block hb4 _ _
        have hk6 : Keeps [] w W6 := by rw [hW6]; exact (hkZ.setCell (.inr (Nat.le_refl _)) _).setCell (.inr (Nat.le_refl _)) _
        have hown6 : W6.ownsRow (w.heap.size + 1) 58 5 (.slice ao q cp) q (partsRow x) := by
          rw [hW6]
          exact own_mono (own_set_two hown _ _ (fun h => Nat.lt_irrefl _ (hge _ h))) (by have := hkRs; omega)
        have hr6 : RdAt W6 W1.heap.size bk o (j + 1) cap O k' 0 := by
          rw [hW6]
          exact heap_set_other (a := ⟨w.heap.size, 1, none⟩) (heap_set_other (a := ⟨w.heap.size, 0, none⟩) hr5 hne2) hne2
        rw [← hW6]
        clear hW6 z0 z1 y0 y1 hb4 hkZ hown hr5 hge
        have hwh := whole_any x _ W6 (HC.out.glob.keep hk6) HXO.out (own_parts hown6 HQ.out)
        have HOW := Lib.hid hown6
        have HRD6 := Lib.hid hr6
        refine hwh.mono ?_
        rintro e w7 ⟨hwo, hk7⟩
        have hb7 := hk7.heap hb6 (by simp)
        obtain ⟨z0, z1, y0, y1⟩ := fault_block hb7
        have hk8 := hk6.then hk7
        clear hwh hown6 hr6
        cases hw : wholeM x with
        | none =>
          rw [hw] at hwo
          have hwo := hwo.none_form
          subst hwo
          have HWN := Lib.hid hw
          clear hw
          go_wp2_with fail
          refine ret_two_cell rfl w.heap.size _ _ _ _ rfl (set2_block hb7 _ _) Tryz.underlying49 rfl (by kernel_rfl) rfl ?_
          refine ⟨by unfold ParseOut; rw [HX.out]; simp only; rw [HWN.out]; rfl, (hk8.setCell (.inr (Nat.le_refl _)) _).setCell (.inr (Nat.le_refl _)) _⟩
        | some t =>
          rw [hw] at hwo
          obtain ⟨O', a', h', hO', hB', hT'⟩ := hwo.some_form
          subst h'
          have HWN := Lib.hid hw
          have hr7 := HRD6.out.keep hk7
          obtain ⟨_, q1, _, _, _, _⟩ := rd_cells hr7
          have q1d : w7.drew.cell? ⟨W1.heap.size, 1, none⟩ = some (.int .i64 (k' : Int)) := q1
          clear hw hO' hT' hr7
          go_wp2_with fail
          refine wp_region_chain (fun W' => W'.cell? ⟨W1.heap.size, 1, none⟩ = some (.int .i64 (k' : Int))) [8] [(0, 0), (1, 0), (2, 0), (3, 0), (4, 1), (5, 0), (6, 0), (7, 0), (8, 3)] (by kernel_rfl) (by kernel_rfl) (fun _ d _ _ _ h => by cases d <;> exact h) q1d ?_
          repeat (first
            | (refine wpC_pure (v := ?_) rfl (by rfl) ?_ ?_
               rotate_left 1
               · (intro w; go_simp; try with_reducible rfl)
               try simp only [Act.put, List.setIfInBounds_toArray, List.set_cons_zero, List.set_cons_succ, List.getElem_toArray, List.getElem_cons_succ, List.getElem_cons_zero])
            | (refine wpC_held (v := ?_) rfl (by rfl) ?_ ?_
               rotate_left 1
               · (rintro w hs0; go_simp; try with_reducible rfl)
               try simp only [Act.put, List.setIfInBounds_toArray, List.set_cons_zero, List.set_cons_succ, List.getElem_toArray, List.getElem_cons_succ, List.getElem_cons_zero]))
          refine wpC_last rfl (by rfl) (fun K hK => ?_)
          go_simp
          refine hK _ _ ?_
          clear hK K
          try simp only [Act.put, List.setIfInBounds_toArray, List.set_cons_zero, List.set_cons_succ, List.getElem_toArray, List.getElem_cons_succ, List.getElem_cons_zero]
          refine wpC_nil ?_
          go_wp2_with fail
          refine ret_two_cell rfl w.heap.size _ _ _ _ rfl (set2_block hb7 _ _) Tryz.underlying49 rfl (by kernel_rfl) rfl ?_
          refine ⟨?_, ((hk8.setCell (.inr (Nat.le_refl _)) _).setCell (.inr (Nat.le_refl _)) _).drew⟩
          unfold ParseOut
          rw [HX.out]
          simp only
          rw [HWN.out]
          have ho7 := own_kept HOW.out hk7 (by simp)
          have hnb : Value.ownBlock (.slice ao q cp) ≠ some w.heap.size := fun h => by have := own_ge ho7 h; omega
          exact ⟨ao, q, cp, rfl, HQ.out, own_mono (own_set_two ho7 _ _ hnb) (by omega)⟩

end Go.Proofs.YtefcmijobbgpbaaGreatDoor
