/- What the document writes of an expression, walked; its Write. Conditions: those of each theorem. -/
import Derived.Test.YtefcmijobbgpbaaGreatDoorExWE
namespace Go.Proofs.YtefcmijobbgpbaaGreatDoor
open Go.RowKit

theorem refFields_cells (w : World) : Calls Tryz.prog 50 #[] w fun e w' => (∃ B, e = .returned (.slice (some ⟨B, 0, none⟩) 6 6) ∧ w'.cell? ⟨B, 0, none⟩ = some (.string bN0) ∧ w'.cell? ⟨B, 1, none⟩ = some (.string bN1) ∧ w'.cell? ⟨B, 2, none⟩ = some (.string bN2) ∧ w'.cell? ⟨B, 3, none⟩ = some (.string bN3) ∧ w'.cell? ⟨B, 4, none⟩ = some (.string bType) ∧ w'.cell? ⟨B, 5, none⟩ = some (.string bText)) ∧ Keeps [] w w' := by
  refine (refFields_any w).mono ?_
  rintro e w' ⟨rfl, rfl⟩
  have hb := heap_alloc_new w (.cells fieldCells 9 (0, 0))
  refine ⟨⟨w.heap.size, rfl, ?_⟩, (Keeps.refl [] w).alloc _⟩
  simp only [World.cell?, hb]
  exact ⟨rfl, rfl, rfl, rfl, rfl, rfl⟩

set_option maxHeartbeats 8000000 in
set_option maxRecDepth 100000 in
theorem writ_leaf (x : List PartR) (hok : ∀ p ∈ x, p.ok) (at_ : Nat) (v : Value) (w : World) (hxl : x.length ≤ 1000000) (hA : ArgPart w v x) (p : PartR) (hp : x[at_]? = some p) (hm : isM p = true) (h3 : p.kind ≤ 3) (o : Bool) :
    Calls Tryz.prog 29 #[v, .int .i64 (at_ : Int), .bool o] w fun e w' => e = .returned (.tuple #[.string (leafB p), .int .i64 ((at_ : Int) + 1)]) ∧ Keeps [] w w' := by
  have hk0 := Keeps.refl [] w
  obtain ⟨ao, cap, rfl, _, h2⟩ := hA
  have hlt : at_ < x.length := by
    rcases Nat.lt_or_ge at_ x.length with h | h
    · exact h
    · rw [List.getElem?_eq_none h] at hp; cases hp
  obtain ⟨n, hn⟩ : ∃ n, x.length = n := ⟨_, rfl⟩
  rw [hn] at hlt hxl ⊢
  have b0 : (0 : Int) ≤ (at_ : Int) := by omega
  have b1 : (at_ : Int) < (n : Int) := by omega
  obtain ⟨bk, oo, hao, hsl, _, _⟩ := h2 (by intro e; rw [e] at hp; cases hp)
  subst hao
  obtain ⟨c0, c1, c2, c3, c4⟩ := hsl at_ p hp
  have hb := isM_bad_kind hm
  have hpok := hok p (List.mem_of_getElem? hp)
  have hc : p.kind = 1 ∨ p.kind = 2 ∨ p.kind = 3 := by omega
  have wr1 : IntKind.i64.wrap ((at_ : Int) + 1) = (at_ : Int) + 1 := IntWalk.i64_in _ (by omega)
  have hk1 := hk0.alloc (.cells #[.int .i64 p.kind, .int .i64 p.n, .string p.s, .string p.stage, .int .i64 p.field] 58 (0, 0))
  rcases hc with hc | hc | hc
  · obtain ⟨_, hn0⟩ := isM_num hm hc
    have hW := wtn_num hn0 hpok.2.1
    have hL : leafB p = ⟨(Lib.itoa p.n).toArray⟩ := by unfold leafB; rw [if_pos hc]
    rw [hL]
    have HW := fun w => Lib.hid ((refWritten_any 2 p.n 0 ⟨#[]⟩ w ⟨hpok.1, hpok.2.1⟩ (by decide)).mono fun e w' (h : WrittenOut 2 ⟨#[]⟩ p.n e ∧ Keeps [] w w') => show e = .returned (.tuple #[.string ⟨(Lib.itoa p.n).toArray⟩, .bool true]) ∧ Keeps [] w w' from by
      refine ⟨?_, h.2⟩
      rcases WrittenOut.split (x := ⟨2, ⟨#[]⟩, p.n, 0⟩) h.1 with ⟨hq, _⟩ | ⟨a, ha, he⟩
      · rw [hW] at hq; cases hq
      · rw [hW] at ha; cases ha; exact he)
    obtain ⟨kd, pn, ps, st, f⟩ := p
    simp only at c0 c1 c2 c3 c4 hc HW hk1 ⊢
    subst hc
    generalize Lib.itoa pn = it at *
    clear hp hm hsl hok h2 hb h3 hn hpok hn0 hW hL
    go_enter Tryz.func29, Tryz.ntmps29
    go_wp2_with (go_at_call 49; refine (HW _).out.mono ?_; rintro e w2 ⟨rfl, hk2⟩)
    go_returns
    exact ⟨rfl, hk1.then hk2⟩
  · have hL : leafB p = (sQ ++ p.s) ++ sQ := by unfold leafB; rw [if_neg (by omega), if_pos hc]
    rw [hL]
    obtain ⟨kd, pn, ps, st, f⟩ := p
    simp only at c0 c1 c2 c3 c4 hc hk1 ⊢
    subst hc
    have hps : ps.size ≤ 140737488351232 := hpok.2.2.1
    clear hp hm hsl hok h2 hb h3 hn hpok hL
    go_enter Tryz.func29, Tryz.ntmps29
    go_wp2_with fail
    go_returns
    exact ⟨rfl, hk1⟩
  · obtain ⟨hf0, hf5, _⟩ := isM_field hm hc
    have hL : leafB p = if p.stage.data.toList = [] then fieldWord p.field else (p.stage ++ sp3) ++ fieldWord p.field := by unfold leafB; rw [if_neg (by omega), if_neg (by omega)]
    rw [hL]
    obtain ⟨kd, pn, ps, st, f⟩ := p
    simp only at c0 c1 c2 c3 c4 hc hk1 hf0 hf5 ⊢
    subst hc
    have hst1 : st.size ≤ 140737488351232 := hpok.2.2.2
    have HF := Lib.hid (refFields_cells (w.alloc (.cells #[.int .i64 3, .int .i64 pn, .string ps, .string st, .int .i64 f] 58 (0, 0))).drew)
    have HBT := Lib.hid (drew_block (heap_alloc_new w (.cells #[.int .i64 3, .int .i64 pn, .string ps, .string st, .int .i64 f] 58 (0, 0))))
    have hfc : f = 0 ∨ f = 1 ∨ f = 2 ∨ f = 3 ∨ f = 4 ∨ f = 5 := by omega
    obtain ⟨t0, t1, t2, t3, t4, _⟩ := part_block HBT.out
    have hkd := hk1.drew
    have y0 : bN0.size = 2 := rfl
    have y1 : bN1.size = 2 := rfl
    have y2 : bN2.size = 2 := rfl
    have y3 : bN3.size = 2 := rfl
    have y4 : bType.size = 4 := rfl
    have y5 : bText.size = 4 := rfl
    clear hp hm hsl hok h2 hb h3 hn hpok hL hf0 hf5
    by_cases hst : st.data.toList = []
    · rw [if_pos hst]
      have hem : st.toList.isEmpty = true := by rw [ByteArray.toList_eq, hst]; rfl
      clear hst
      rcases hfc with rfl | rfl | rfl | rfl | rfl | rfl
      all_goals
        go_enter Tryz.func29, Tryz.ntmps29
        go_wp2_with fail
        go_region_with (go_at_call 50; refine HF.out.mono ?_; rintro e w2 ⟨⟨B, rfl, g0, g1, g2, g3, g4, g5⟩, hkB⟩; obtain ⟨t0, t1, t2, t3, t4, _⟩ := part_block (hkB.heap HBT.out (by simp)))
      all_goals go_wp2_with fail
      all_goals go_returns
      all_goals exact ⟨rfl, hkd.then hkB⟩
    · rw [if_neg hst]
      have hem : st.toList.isEmpty = false := by
        rw [ByteArray.toList_eq]
        cases h : st.data.toList with
        | nil => exact absurd h hst
        | cons _ _ => rfl
      clear hst
      rcases hfc with rfl | rfl | rfl | rfl | rfl | rfl
      all_goals
        go_enter Tryz.func29, Tryz.ntmps29
        go_wp2_with fail
        go_region_with (go_at_call 50; refine HF.out.mono ?_; rintro e w2 ⟨⟨B, rfl, g0, g1, g2, g3, g4, g5⟩, hkB⟩; obtain ⟨t0, t1, t2, t3, t4, _⟩ := part_block (hkB.heap HBT.out (by simp)))
      all_goals go_wp2_with fail
      all_goals go_returns
      all_goals exact ⟨rfl, hkd.then hkB⟩

theorem fieldWord_size (f : Int) : (fieldWord f).size ≤ 4 := by
  unfold fieldWord
  rw [List.getD_eq_getElem?_getD]
  have h : ∀ n : Nat, (fieldWords[n]?.getD ⟨#[]⟩).size ≤ 4 := by
    intro n
    match n with
    | 0 => decide
    | 1 => decide
    | 2 => decide
    | 3 => decide
    | 4 => decide
    | 5 => decide
    | n + 6 => rw [List.getElem?_eq_none (by simp [fieldWords])]; decide
  exact h _

theorem leafB_size {p : PartR} (hp : p.ok) (_hm : isM p = true) : (leafB p).size ≤ 200000000000000 := by
  unfold leafB
  have h1 := hp.2.2.1
  have h2 := hp.2.2.2
  split
  · have := Lib.itoa_length_le p.n hp.1 hp.2.1
    show (Lib.itoa p.n).toArray.size ≤ _
    simp
    omega
  · split
    · have e : ((sQ ++ p.s) ++ sQ).size = p.s.size + 2 := by rw [ByteArray.size_append, ByteArray.size_append]; show 1 + p.s.size + 1 = _; omega
      omega
    · have h3 := fieldWord_size p.field
      split
      · omega
      · have e : ((p.stage ++ sp3) ++ fieldWord p.field).size = p.stage.size + 3 + (fieldWord p.field).size := by rw [ByteArray.size_append, ByteArray.size_append]; rfl
        omega

theorem sign_size (k : Int) : (opAt k).sign.size ≤ 3 := by
  unfold opAt
  rw [List.getD_eq_getElem?_getD]
  have h : ∀ n : Nat, (opsL[n]?.getD ⟨⟨#[]⟩, 0, 0, 0, 0, 0⟩).sign.size ≤ 3 := by
    intro n
    match n with
    | 0 => decide
    | 1 => decide
    | 2 => decide
    | 3 => decide
    | 4 => decide
    | 5 => decide
    | 6 => decide
    | 7 => decide
    | 8 => decide
    | n + 9 => rw [List.getElem?_eq_none (by simp [opsL])]; decide
  exact h _

theorem fenceB_size (o : Bool) (l : ByteArray) : (fenceB o l).size ≤ l.size + 4 := by
  unfold fenceB
  split
  · omega
  · rw [ByteArray.size_append, ByteArray.size_append]
    show 2 + l.size + 2 ≤ _
    omega

theorem textB_size : ∀ (t : Ex) (o : Bool), t.good → (∀ p ∈ t.parts, p.ok) → (t.textB o).size ≤ t.parts.length * 300000000000000
  | .leaf p, o, hg, hok => by
    have := leafB_size (hok p (by simp [Ex.parts])) (Ex.good_leaf hg)
    simp only [Ex.textB, Ex.parts, List.length_singleton]
    omega
  | .neg p a, o, hg, hok => by
    have h1 := textB_size a false (Ex.good_neg hg).2 (fun q hq => hok q (by simp [Ex.parts, hq]))
    have h2 := fenceB_size o (sNot ++ a.textB false)
    rw [ByteArray.size_append] at h2
    have h3 : sNot.size = 4 := rfl
    simp only [Ex.textB, Ex.parts, List.length_cons]
    omega
  | .bin p a b, o, hg, hok => by
    have h1 := textB_size a false (Ex.good_bin hg).2.1 (fun q hq => hok q (by simp [Ex.parts, hq]))
    have h1' := textB_size b false (Ex.good_bin hg).2.2 (fun q hq => hok q (by simp [Ex.parts, hq]))
    have h2 := fenceB_size o ((((a.textB false ++ sSp) ++ (opAt p.kind).sign) ++ sSp) ++ b.textB false)
    rw [ByteArray.size_append, ByteArray.size_append, ByteArray.size_append, ByteArray.size_append] at h2
    have h3 : sSp.size = 1 := rfl
    have h4 := sign_size p.kind
    simp only [Ex.textB, Ex.parts, List.length_cons, List.length_append]
    omega

end Go.Proofs.YtefcmijobbgpbaaGreatDoor
