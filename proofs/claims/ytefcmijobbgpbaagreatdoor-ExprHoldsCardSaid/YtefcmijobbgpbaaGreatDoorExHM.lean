/- Expressions: what the code of chapter 11 computes (ExHB ExHC). Conditions: those of each theorem. -/
import Derived.Test.YtefcmijobbgpbaaGreatDoorExTN

namespace Go.Proofs.YtefcmijobbgpbaaGreatDoor
open Go.RowKit

theorem ev_guard : Tryz.prog.eqGuardType Tryz.prog.depth 37 = false := by kernel_rfl

set_option maxHeartbeats 4000000 in
theorem run_eqIn_ints (w : World) (d : Nat) (a0 a1 a2 a3 : Int) : (Op.equalIn (d + 1 + 1) 35 (.agg #[.int .i64 a0, .int .i64 a1, .int .i64 a2, .int .i64 a3]) (.agg #[.int .i64 a0, .int .i64 a1, .int .i64 a2, .int .i64 a3])).run Tryz.prog w = .ok true w := by
  have hu := Tryz.underlying35
  have hi := Tryz.underlying2
  have ha : ∀ w, (isAgg 2).run Tryz.prog w = .ok false w := fun w => by kernel_rfl
  have hr : List.range' 0 4 = [0, 1, 2, 3] := rfl
  have he : ∀ (w : World) (a : Int), (Op.equalIn (d + 1) 2 (.int .i64 a) (.int .i64 a)).run Tryz.prog w = .ok true w := fun w a => by rw [run_equalIn_int w d _ .i64 .i64 a a hi]; simp
  rw [Op.equalIn]
  simp only [Sem.run_bind, run_underlying hu, Result.andThen_ok]
  simp [go_sem, ha, hr, he]

set_option maxHeartbeats 4000000 in
theorem run_eqIn_ev (w : World) (k t x : ByteArray) (a0 a1 a2 a3 : Int) : (Op.equalIn 10000 37 (.agg #[.string k, .string t, .int .i64 a0, .int .i64 a1, .int .i64 a2, .int .i64 a3, .string x]) (.agg #[.string k, .string t, .int .i64 a0, .int .i64 a1, .int .i64 a2, .int .i64 a3, .string x])).run Tryz.prog w = .ok true w := by
  have h := fun w => run_eqIn_ints w 9997 a0 a1 a2 a3
  rw [run_equalIn_struct w 9999 37 _ _ (by kernel_rfl) (by kernel_rfl)]
  simp only [Program.fieldsOf, Tryz.underlying37]
  simp [Op.eqFields, go_sem, h]

set_option maxHeartbeats 4000000 in
set_option maxRecDepth 100000 in
theorem sameEvents_any (L : List EvR) (v v' : Value) (w : World) (h : ArgEv w v L) (h' : ArgEv w v' L) (hl : L.length ≤ 9223372036854775807) :
    Calls Tryz.prog 37 #[v, v'] w fun e w' => e = .returned (.bool true) ∧ Keeps [] w w' := by
  obtain ⟨ao, cap, rfl, _, h2⟩ := h
  obtain ⟨ao', cap', rfl, _, h2'⟩ := h'
  obtain ⟨n, hn⟩ : ∃ n, L.length = n := ⟨_, rfl⟩
  rw [hn] at hl ⊢
  have HN := Lib.hid hn
  have H2 := Lib.hid h2
  have H2' := Lib.hid h2'
  clear hn h2 h2'
  go_enter Tryz.func37, Tryz.ntmps37
  go_wp2_with fail
  go_loopw [5] (fun i wr => ∃ k : Nat, k ≤ n ∧ i = .int .i64 k ∧ Keeps [] w wr) (fun i _ => n - (intOf i).toNat)
  case atStart => exact ⟨0, Nat.zero_le _, rfl, Keeps.refl [] w⟩
  case round =>
    obtain ⟨k, hkn, rfl, hk⟩ := hrel
    by_cases hlt : k < n
    · have d1 : decide ((k : Int) < (n : Int)) = true := by simp; omega
      obtain ⟨p, hp⟩ : ∃ p, L[k]? = some p := ⟨L[k]'(by rw [HN.out]; omega), List.getElem?_eq_getElem _⟩
      have hne : L ≠ [] := by intro e; rw [e] at hp; cases hp
      obtain ⟨bk, o, hao, hsl, hcl, hcr⟩ := H2.out hne
      obtain ⟨bk', o', hao', hsl', hcl', hcr'⟩ := H2'.out hne
      subst hao
      subst hao'
      obtain ⟨c0, c1, c2, c3, c4, c5, c6⟩ := hsl k p hp
      obtain ⟨f0, f1, f2, f3, f4, f5, f6⟩ := hsl' k p hp
      have c0 := hk.cell c0 (by simp)
      have c1 := hk.cell c1 (by simp)
      have c2 := hk.cell c2 (by simp)
      have c3 := hk.cell c3 (by simp)
      have c4 := hk.cell c4 (by simp)
      have c5 := hk.cell c5 (by simp)
      have c6 := hk.cell c6 (by simp)
      have f0 := hk.cell f0 (by simp)
      have f1 := hk.cell f1 (by simp)
      have f2 := hk.cell f2 (by simp)
      have f3 := hk.cell f3 (by simp)
      have f4 := hk.cell f4 (by simp)
      have f5 := hk.cell f5 (by simp)
      have f6 := hk.cell f6 (by simp)
      have bk0 : (0 : Int) ≤ (k : Int) := by omega
      have bk1 : (k : Int) < (n : Int) := by omega
      obtain ⟨pk, pt, p0, p1, p2, p3, px⟩ := p
      simp only at c0 c1 c2 c3 c4 c5 c6 f0 f1 f2 f3 f4 f5 f6
      clear hsl hsl' hp hne
      have EQ := fun w => run_eqIn_ev w pk pt px p0 p1 p2 p3
      have GD := ev_guard
      go_wp2_with fail
      repeat (go_quiet (fail); try go_wp2_with fail)
      exact ⟨⟨k + 1, by omega, by simp, hk.drewN _⟩, by simp only [intOf]; omega⟩
    · have hke : k = n := by omega
      have d1 : decide ((k : Int) < (n : Int)) = false := by simp; omega
      go_wp2_with fail
      go_returns
      exact ⟨rfl, hk⟩

def bMark : ByteArray := ⟨#[109, 97, 114, 107]⟩
def evMark : EvR := ⟨bMark, ⟨#[]⟩, 0, 0, 0, 0, ⟨#[]⟩⟩

theorem ArgEv.cells {w : World} {v : Value} {l : List EvR} (h : ArgEv w v l) : SlC w v l.length 7 (evsRow l) := by
  obtain ⟨ao, cap, rfl, h1, h2⟩ := h
  refine ⟨ao, cap, rfl, evsRow_len l, fun h => ⟨by rw [(h1 h).2]; rfl, (h1 h).1⟩, fun b hb j u hu => ?_⟩
  by_cases hne : l = []
  · subst hne; cases hu
  · obtain ⟨bk, o, rfl, h3, h4⟩ := h2 hne
    cases hb
    have hj : j < l.length * 7 := by
      rcases Nat.lt_or_ge j (l.length * 7) with h | h
      · exact h
      · rw [List.getElem?_eq_none (by rw [evsRow_len]; exact h)] at hu; cases hu
    have hq : j / 7 < l.length := by omega
    have hx : l[j / 7]? = some l[j / 7] := List.getElem?_eq_getElem hq
    obtain ⟨r0, r1, r2, r3, r4, r5, r6⟩ := evsRow_at l (j / 7) _ hx
    obtain ⟨g0, g1, g2, g3, g4, g5, g6⟩ := h3 (j / 7) _ hx
    rw [addr_add]
    have hc : j = j / 7 * 7 ∨ j = j / 7 * 7 + 1 ∨ j = j / 7 * 7 + 2 ∨ j = j / 7 * 7 + 3 ∨ j = j / 7 * 7 + 4 ∨ j = j / 7 * 7 + 5 ∨ j = j / 7 * 7 + 6 := by omega
    rcases hc with e | e | e | e | e | e | e <;> rw [e] at hu ⊢
    · rw [r0] at hu; cases hu; exact g0
    · rw [r1] at hu; cases hu; exact g1
    · rw [r2] at hu; cases hu; exact g2
    · rw [r3] at hu; cases hu; exact g3
    · rw [r4] at hu; cases hu; exact g4
    · rw [r5] at hu; cases hu; exact g5
    · rw [r6] at hu; cases hu; exact g6

end Go.Proofs.YtefcmijobbgpbaaGreatDoor

namespace Go.Proofs.YtefcmijobbgpbaaGreatDoor
open Go.RowKit

def Lent (B : Nat) (L : List EvR) (n : Nat) (b cp : Nat) (w' : World) : Prop := w'.ownsRow B 37 7 (.slice (some ⟨b, 0, none⟩) (n + 1) cp) (n + 1) (evsRow (L ++ [evMark]))

theorem Lent.keep {B n b cp : Nat} {L : List EvR} {w w' : World} (h : Lent B L n b cp w) (k : Keeps [] w w') : Lent B L n b cp w' := own_kept h k (by simp)

theorem Lent.arg {B n b cp : Nat} {L : List EvR} {w : World} (h : Lent B L n b cp w) (hn : L.length = n) : ArgEv w (.slice (some ⟨b, 0, none⟩) n cp) L ∧ n + 1 ≤ cp ∧ cp ≤ 9223372036854775807 ∧ w.cell? ⟨b, n * 7, none⟩ = some (.string bMark) := by
  have h1 := own_evs h (by simp [hn])
  obtain ⟨ao, cap, he, _, h2⟩ := h1
  obtain ⟨bk, o, hao, hsl, hc1, hc2⟩ := h2 (by simp)
  obtain ⟨rfl, _, rfl⟩ := Value.slice.inj he
  cases hao
  simp only [List.length_append, List.length_singleton, hn] at hc1
  refine ⟨⟨some ⟨b, 0, none⟩, cp, by rw [hn], (fun e => by cases e), fun _ => ⟨b, 0, rfl, fun j x hx => ?_, by omega, hc2⟩⟩, hc1, hc2, ?_⟩
  · refine hsl j x ?_
    rw [List.getElem?_append_left (by
      rcases Nat.lt_or_ge j L.length with h | h
      · exact h
      · rw [List.getElem?_eq_none h] at hx; cases hx)]
    exact hx
  · have := (hsl n evMark (by rw [List.getElem?_append_right (by omega), hn]; simp)).1
    rw [Nat.zero_add] at this
    exact this

set_option maxHeartbeats 4000000 in
set_option maxRecDepth 100000 in
theorem lend_any (L : List EvR) (v : Value) (w : World) (h : ArgEv w v L) (hl : L.length * 80 ≤ 140737488351232) :
    Calls Tryz.prog 18 #[v] w fun e w' => (∃ b cp, e = .returned (.slice (some ⟨b, 0, none⟩) L.length cp) ∧ Lent w.heap.size L L.length b cp w') ∧ Keeps [] w w' := by
  have hk0 := Keeps.refl [] w
  have HS := Lib.hid h.cells
  obtain ⟨ao, cap, rfl, _, _⟩ := h
  obtain ⟨n, hn⟩ : ∃ n, L.length = n := ⟨_, rfl⟩
  rw [hn] at hl HS ⊢
  have HN := Lib.hid hn
  clear hn
  go_enter Tryz.func18, Tryz.ntmps18
  go_wp2_with (first
    | (at_builtin; refine list_append_any rtEv (by rfl) _ _ (by rfl) w.heap.size (.slice (some ⟨w.heap.size, 0, none⟩) 0 0) 0 [] (by rfl) (own_new w #[] 37 7 0 rfl (by decide)) _ n (evsRow L) (by rfl) (HS.out.keep (hk0.alloc _) (by simp)) (evsRow_cell L) (by omega) (by unfold maxLen; omega) (hk0.alloc _).size ?_; intro ao1 cp1 w1 hown hgrow hat hnil; simp only [Nat.zero_add, List.nil_append] at hown hgrow hnil ⊢; have hk1 := (hk0.alloc _).grown hgrow (fun k h => .inr (by cases h; exact Nat.le_refl _)); have HO := Lib.hid hown; clear hown hgrow hat hnil)
    | (at_builtin; refine list_append_any rtEv (by rfl) _ _ (by rfl) w.heap.size (.slice ao1 n cp1) n (evsRow L) (by rfl) (own_kept HO.out ((Keeps.refl [] w1).alloc _) (by simp)) _ 1 (evsRow [evMark]) (by rfl) (SlC.of_block (cs := (evsRow [evMark]).toArray) (t := 37) (fr := (0, 0)) (heap_alloc_new w1 _) (by rfl)) (evsRow_cell _) (by omega) (by unfold maxLen; omega) (hk1.alloc _).size ?_; intro ao2 cp2 w2 hown2 hgrow2 hat2 hnil2; have hk2 := (hk1.alloc _).grown hgrow2 (fun k h => .inr (own_ge HO.out h)); have hform : ∃ b, ao2 = some ⟨b, 0, none⟩ ∧ n + 1 ≤ cp2 := by
        rcases hown2.2 with ⟨he, h0⟩ | ⟨g, cap, cur, he, _, _, hnc, _⟩
        · omega
        · obtain ⟨rfl, _, rfl⟩ := Value.slice.inj he
          exact ⟨g, rfl, hnc⟩
       obtain ⟨b, hb, hcp⟩ := hform
       subst hb
       have HO2 := Lib.hid hown2
       clear hown2 hgrow2 hat2 hnil2))
  go_returns
  exact ⟨⟨b, cp2, rfl, by unfold Lent; rw [evsRow_app]; exact HO2.out⟩, hk2⟩

set_option maxHeartbeats 4000000 in
set_option maxRecDepth 100000 in
theorem kept_any (L : List EvR) (v : Value) (B n b cp : Nat) (w : World) (hn : L.length = n) (hl : n ≤ 4000000000000) (h : Lent B L n b cp w) (h' : ArgEv w v L) :
    Calls Tryz.prog 21 #[.slice (some ⟨b, 0, none⟩) n cp, v] w fun e w' => e = .returned (.bool true) ∧ Keeps [] w w' := by
  obtain ⟨hA, hc1, hc2, hm0⟩ := h.arg hn
  have hm : w.cell? ⟨b, n * 7, none⟩ = some (.string ⟨#[109, 97, 114, 107]⟩) := hm0
  have HS := Lib.hid (sameEvents_any L _ v w hA h' (by omega))
  obtain ⟨ao, cap, rfl, _, _⟩ := h'
  rw [hn] at HS ⊢
  have wr1 : IntKind.i64.wrap ((n : Int) + 1) = (n : Int) + 1 := IntWalk.i64_in _ (by omega)
  clear h hA hn hm0
  go_enter Tryz.func21, Tryz.ntmps21
  go_wp2_with (go_at_call 37; refine HS.out.mono ?_; rintro e w2 ⟨rfl, hk2⟩; have hm := hk2.cell hm (by simp))
  all_goals go_returns
  all_goals exact ⟨rfl, hk2⟩

end Go.Proofs.YtefcmijobbgpbaaGreatDoor
