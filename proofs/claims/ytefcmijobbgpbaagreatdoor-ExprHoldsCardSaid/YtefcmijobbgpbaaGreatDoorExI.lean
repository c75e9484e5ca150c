/- grow of two sides. Conditions: those of each theorem. -/
import Derived.Test.YtefcmijobbgpbaaGreatDoorExH
namespace Go.Proofs.YtefcmijobbgpbaaGreatDoor
open Go.RowKit

def binM (p : PartR) (d : Nat) : Option (Ex × List PartR) → Option (Ex × List PartR)
  | none => none
  | some (a, x1) => bin2M p a (growM d x1)
where
  bin2M (p : PartR) (a : Ex) : Option (Ex × List PartR) → Option (Ex × List PartR)
  | none => none
  | some (b, x2) => if a.kind = b.kind ∧ (a.kind = (opAt p.kind).of_ ∨ a.kind = (opAt p.kind).other) then some (.bin p a b, x2) else none

theorem growM_bin {d : Nat} {p : PartR} {l : List PartR} (hm : isM p = true) (h4 : 4 ≤ p.kind) (h12 : p.kind ≤ 12) : growM (d + 1) (p :: l) = binM p d (growM d l) := by
  rw [growM, if_neg (by rw [hm]; simp), if_neg (by omega), if_neg (by omega)]
  cases h : growM d l with
  | none => rfl
  | some q =>
    obtain ⟨a, x1⟩ := q
    simp only [binM]
    cases h2 : growM d x1 with
    | none => rfl
    | some q2 => rfl

theorem bin_good {p : PartR} {a b : Ex} {x : List PartR} (h : a.kind = b.kind) (h2 : a.kind = (opAt p.kind).of_ ∨ a.kind = (opAt p.kind).other) : binM.bin2M p a (some (b, x)) = some (.bin p a b, x) := by
  simp only [binM.bin2M, if_pos (And.intro h h2)]
theorem bin_bad1 {p : PartR} {a b : Ex} {x : List PartR} (h : ¬ a.kind = b.kind) : binM.bin2M p a (some (b, x)) = none := by
  simp only [binM.bin2M]
  rw [if_neg (fun h2 => h h2.1)]
theorem bin_bad2 {p : PartR} {a b : Ex} {x : List PartR} (h : ¬ a.kind = (opAt p.kind).of_) (h2 : ¬ a.kind = (opAt p.kind).other) : binM.bin2M p a (some (b, x)) = none := by
  simp only [binM.bin2M]
  rw [if_neg (fun h3 => h3.2.elim h h2)]

set_option maxHeartbeats 8000000 in
set_option maxRecDepth 100000 in
/-- Two sides. -/
theorem grow_bin (O d n : Nat) (p : PartR) (l : List PartR) (hn : l.length = n + 1) (IH : ∀ l, GrowIH O d l) (bk o cap : Nat) (u w : World) (hu : Keeps [] u w) (hG : GlobX w) (hO : OpsAt w O) (hok : ∀ x ∈ l, x.ok) (hp : p.ok) (hm : isM p = true) (hd : d < 64) (hcap : n + 2 ≤ cap) (hs : PartSl u bk o (p :: l)) (hcm : cap ≤ 9223372036854775807)
    (h0 : w.cell? ⟨bk, o, none⟩ = some (.int .i64 p.kind)) (h1 : w.cell? ⟨bk, o + 1, none⟩ = some (.int .i64 p.n)) (h2 : w.cell? ⟨bk, o + 2, none⟩ = some (.string p.s)) (h3 : w.cell? ⟨bk, o + 3, none⟩ = some (.string p.stage)) (h4 : w.cell? ⟨bk, o + 4, none⟩ = some (.int .i64 p.field)) (hop4 : 4 ≤ p.kind) (hop12 : p.kind ≤ 12) :
    Calls Tryz.prog 40 #[.slice (some ⟨bk, o, none⟩) (n + 1 + 1) cap, .slice (some ⟨O, 0, none⟩) 9 9, .int .i64 ((d : Int) + 1)] w fun e w' => GrowOut O u w.heap.size (growM (d + 1) (p :: l)) e w' ∧ Keeps [] w w' := by
  have hk0 := Keeps.refl [] w
  have HI := Lib.hid (is_any p hp w hG)
  rw [hm] at HI
  have HIH := Lib.hid IH
  have HG := Lib.hid hG
  have HO := Lib.hid hO
  have HOK := Lib.hid hok
  have HS := Lib.hid hs
  have HM := Lib.hid (growM_bin (d := d) (l := l) hm hop4 hop12)
  have HP := Lib.hid (And.intro hop4 hop12)
  have HN := Lib.hid hn
  have d2 : (((d : Int) + 1) == 0) = false := by rw [beq_eq_false_iff_ne]; omega
  have e1 : (p.kind == 1) = false := by rw [beq_eq_false_iff_ne]; omega
  have e2 : (p.kind == 2) = false := by rw [beq_eq_false_iff_ne]; omega
  have e3 : (p.kind == 3) = false := by rw [beq_eq_false_iff_ne]; omega
  have e4 : (p.kind == 13) = false := by rw [beq_eq_false_iff_ne]; omega
  have hc1 : ¬ cap = 1 := by omega
  have d1 : (((n : Int) + 1 + 1) == 0) = false := by rw [beq_eq_false_iff_ne]; omega
  clear hm hG hp hop4 hop12 hO hok hs IH hn
  go_enter Tryz.func40, Tryz.ntmps40
  go_wp2_with (go_at_call 57; refine HI.out.mono ?_; rintro e w2 ⟨rfl, hk2⟩; have g0 := hk2.cell h0 (by simp); have g1 := hk2.cell h1 (by simp); have g2 := hk2.cell h2 (by simp); have g3 := hk2.cell h3 (by simp); have g4 := hk2.cell h4 (by simp); have hbl := World.block_lt_of_cell? w2 _ g0)
  obtain ⟨a, ha⟩ : ∃ a, a = w2.heap.size := ⟨_, rfl⟩
  obtain ⟨T, hT⟩ : ∃ T, T = w2.heap.size + 1 := ⟨_, rfl⟩
  have hka := (hk2.alloc (.cells (treeRow p (.pointer none) (.slice none 0 0) 0) 69 (0, 0))).alloc (.cells #[.pointer (some ⟨w2.heap.size, 0, none⟩)] 64 (0, 0))
  have hbA := alloc_old (heap_alloc_new w2 (.cells (treeRow p (.pointer none) (.slice none 0 0) 0) 69 (0, 0))) (.cells #[.pointer (some ⟨w2.heap.size, 0, none⟩)] 64 (0, 0))
  have hbT := heap_alloc2_new w2 (.cells (treeRow p (.pointer none) (.slice none 0 0) 0) 69 (0, 0)) (.cells #[.pointer (some ⟨w2.heap.size, 0, none⟩)] 64 (0, 0))
  have haw : w.heap.size ≤ a := by rw [ha]; exact hk2.size
  obtain ⟨w3, hw3⟩ : ∃ w3, w3 = ((w2.alloc (.cells (treeRow p (.pointer none) (.slice none 0 0) 0) 69 (0, 0))).alloc (.cells #[.pointer (some ⟨w2.heap.size, 0, none⟩)] 64 (0, 0))) := ⟨_, rfl⟩
  have hw3' := hw3
  unfold treeRow at hw3'
  have hT3 : T < w3.heap.size := by rw [hw3, hT]; simp
  have hk3 : Keeps [] w w3 := by rw [hw3]; exact hka
  rw [← hw3] at hbA hbT
  rw [← hw3', ← hT, ← ha]
  rw [← hT, ← ha] at hbT
  rw [← ha] at hbA
  have haT : a < T := by omega
  clear hw3 hw3' hka hT ha
  have HA0 := Lib.hid (And.intro hbA hbT)
  clear hbA hbT
  go_loopw [0, 72] (fun x i wr => (x = .slice (some ⟨bk, o + 5, none⟩) (n + 1) (cap - 1) ∧ i = .int .i64 0 ∧ w3 = wr) ∨
      (∃ t1 r1 b ao c wq, Hid (growM d l = some (t1, r1)) ∧ i = .int .i64 1 ∧ Hid (ArgPart u x r1 ∧ TreeAt wq O w3.heap.size t1 b ∧ Keeps [a] wq wr ∧ w3.heap.size ≤ wq.heap.size ∧ wr.heap[a]? = some (.cells (treeRow p (.pointer none) (.slice ao 1 c) 0) 69 (0, 0)) ∧ wr.heap[T]? = some (.cells #[.pointer (some ⟨a, 0, none⟩)] 64 (0, 0)) ∧
        wr.ownsRow wq.heap.size 64 1 (.slice ao 1 c) 1 [.pointer (some ⟨b, 0, none⟩)]) ∧ Keeps [] w wr) ∨
      (∃ t1 r1 t2 r2 b1 b2 ao c wq1 wq2 S2 B2, Hid (growM d l = some (t1, r1) ∧ growM d r1 = some (t2, r2)) ∧ i = .int .i64 2 ∧ Hid (ArgPart u x r2 ∧ (TreeAt wq1 O w3.heap.size t1 b1 ∧ Keeps [a] wq1 wr) ∧ (TreeAt wq2 O B2 t2 b2 ∧ Keeps S2 wq2 wr ∧ (∀ y ∈ S2, y < B2) ∧ w3.heap.size ≤ B2 ∧ a < B2) ∧ w3.heap.size ≤ wq1.heap.size ∧ wr.heap[a]? = some (.cells (treeRow p (.pointer none) (.slice ao 2 c) 0) 69 (0, 0)) ∧ wr.heap[T]? = some (.cells #[.pointer (some ⟨a, 0, none⟩)] 64 (0, 0)) ∧
        wr.ownsRow wq1.heap.size 64 1 (.slice ao 2 c) 2 [.pointer (some ⟨b1, 0, none⟩), .pointer (some ⟨b2, 0, none⟩)]) ∧ Keeps [] w wr)) (fun _ i _ => 2 - (intOf i).toNat)
  case atStart => exact .inl ⟨rfl, rfl, rfl⟩
  case round =>
    rcases hrel with ⟨rfl, rfl, rfl⟩ | ⟨t1, r1, b, ao, c, wq1, hg, rfl, hst, hk⟩ | ⟨t1, r1, t2, r2, b1, b2, ao, c, wq1, wq2, S2, B2, hg, rfl, hst, hk⟩
    · obtain ⟨hbA, hbT⟩ := HA0.out
      have hA3 : ArgPart u (.slice (some ⟨bk, o + 5, none⟩) (n + 1) (cap - 1)) l := by
        have h := RestOf.arg (w := u) (p := p) (l := l) (v := .slice (some ⟨bk, o + 5, none⟩) (n + 1) (cap - 1)) ⟨o + 5, by rw [HN.out], fun _ => rfl⟩ HS.out (by simp [HN.out]; omega) hcm
        exact h
      have HC := Lib.hid (HIH.out l u _ w3 ⟨hu.then hk3, HG.out.keep hk3, HOK.out, HO.out.keep hk3 (by simp), hA3⟩)
      cases hg : growM d l with
      | none =>
        rw [hg] at HC HM
        go_wp2_with (go_at_call 40; refine HC.out.mono ?_; rintro e wq ⟨h, hkq⟩; have h := h.none_form; subst h)
        go_returns
        exact ⟨by rw [HM.out]; rfl, hk3.then hkq⟩
      | some q =>
        obtain ⟨t1, r1⟩ := q
        rw [hg] at HC HM
        have HGr := Lib.hid hg
        clear hg hA3
        go_wp2_with (go_at_call 40; refine HC.out.mono ?_; rintro e wq ⟨h, hkq⟩; obtain ⟨b, v', h, hTr, hAr⟩ := h.some_form; subst h)
        have hbA' := hkq.heap hbA (by simp)
        have hbT' := hkq.heap hbT (by simp)
        have hkw := hk3.then hkq
        have cT : wq.cell? ⟨T, 0, none⟩ = some (.pointer (some ⟨a, 0, none⟩)) := by simp [World.cell?, hbT']
        have ca6 : wq.cell? ⟨a, 6, none⟩ = some (.slice none 0 0) := (node_cells hbA').2.2.2.2.2.2.1
        have za6 : wq.frozen? ⟨a, 6, none⟩ = false := by simp [World.frozen?, hbA']
        have hTq : T < wq.heap.size := Nat.lt_of_lt_of_le hT3 hkq.size
        have hown : Hid (wq.ownsRow wq.heap.size 64 1 (.slice none 0 0) 0 []) := Lib.hid ⟨rfl, .inl ⟨rfl, rfl⟩⟩
        have HTA := Lib.hid (And.intro hTr hAr)
        clear HC hTr hAr
        refine wp_region_chain (fun W' => W'.cell? ⟨T, 0, none⟩ = some (.pointer (some ⟨a, 0, none⟩)) ∧ W'.cell? ⟨a, 6, none⟩ = some (.slice none 0 0)) [10] [(0, 1), (1, 1), (2, 0), (3, 0), (4, 1), (5, 0), (6, 2), (7, 2), (8, 0), (9, 0), (10, 3)] (by kernel_rfl) (by kernel_rfl) (fun _ d _ _ _ h => by cases d <;> exact h) ⟨cT, ca6⟩ ?_
        repeat (first
          | (refine wpC_pure (v := ?_) rfl (by rfl) ?_ ?_
             rotate_left 1
             · (intro w; go_simp; try with_reducible rfl)
             try simp only [Act.put, List.setIfInBounds_toArray, List.set_cons_zero, List.set_cons_succ, List.getElem_toArray, List.getElem_cons_succ, List.getElem_cons_zero])
          | (refine wpC_held (v := ?_) rfl (by rfl) ?_ ?_
             rotate_left 1
             · (rintro w ⟨x0, x1⟩; go_simp; try with_reducible rfl)
             try simp only [Act.put, List.setIfInBounds_toArray, List.set_cons_zero, List.set_cons_succ, List.getElem_toArray, List.getElem_cons_succ, List.getElem_cons_zero]))
        refine wpC_step rfl (by rfl) (fun K hK => ?_)
        go_simp
        refine hK _ _ ⟨(Keeps.alloc (Keeps.refl [] _) _).cell (show wq.drew.cell? _ = _ from cT) (by simp), (Keeps.alloc (Keeps.refl [] _) _).cell (show wq.drew.cell? _ = _ from ca6) (by simp)⟩ ?_
        clear hK K
        try simp only [Act.put, List.setIfInBounds_toArray, List.set_cons_zero, List.set_cons_succ, List.getElem_toArray, List.getElem_cons_succ, List.getElem_cons_zero]
        refine wpC_step rfl (by rfl) (fun K hK => ?_)
        refine wp_append_any rtTree _ _ (by rfl) wq.heap.size (.slice none 0 0) 0 [] (by rfl) (hown.out.drew.alloc _) _ 1 [.pointer (some ⟨b, 0, none⟩)] (by rfl) (SlC.of_block (cs := #[.pointer (some ⟨b, 0, none⟩)]) (t := 64) (fr := (0, 0)) (heap_alloc_new _ _) (by rfl)) (by simp [Value.oneCell']) (by omega) (by unfold maxLen; omega) (by first | (simp; done) | (simp; omega)) ?_
        intro ao1 cp1 w1 hown1 hgrow hat hnil
        have hno : ∀ x, x < wq.heap.size → ¬ some x = Value.ownBlock (.slice none 0 0) := fun x hx e => by have := own_ge hown.out e.symm; omega
        have hbA1 : w1.heap[a]? = some (.cells (treeRow p (.pointer none) (.slice none 0 0) 0) 69 (0, 0)) := by
          rw [hgrow.block a (by simp; omega) (hno a (by omega))]
          exact alloc_old (w := wq.drew) hbA' _
        have hbT1 : w1.heap[T]? = some (.cells #[.pointer (some ⟨a, 0, none⟩)] 64 (0, 0)) := by
          rw [hgrow.block T (by simp; omega) (hno T (by omega))]
          exact alloc_old (w := wq.drew) hbT' _
        have cT1 : w1.cell? ⟨T, 0, none⟩ = some (.pointer (some ⟨a, 0, none⟩)) := by simp [World.cell?, hbT1]
        have ca61 : w1.cell? ⟨a, 6, none⟩ = some (.slice none 0 0) := (node_cells hbA1).2.2.2.2.2.2.1
        have za61 : w1.frozen? ⟨a, 6, none⟩ = false := by simp [World.frozen?, hbA1]
        have hkw1 : Keeps [] w w1 := (hkw.drew.alloc _).grown hgrow (fun k h => .inr (by have := own_ge hown.out h; omega))
        have hq1 : Keeps [a] wq w1 := ((Keeps.refl [a] wq).drew.alloc _).grown hgrow (fun k h => .inr (own_ge hown.out h))
        refine hK _ _ ⟨cT1, ca61⟩ ?_
        clear hK K
        try simp only [Act.put, List.setIfInBounds_toArray, List.set_cons_zero, List.set_cons_succ, List.getElem_toArray, List.getElem_cons_succ, List.getElem_cons_zero]
        repeat (first
          | (refine wpC_pure (v := ?_) rfl (by rfl) ?_ ?_
             rotate_left 1
             · (intro w; go_simp; try with_reducible rfl)
             try simp only [Act.put, List.setIfInBounds_toArray, List.set_cons_zero, List.set_cons_succ, List.getElem_toArray, List.getElem_cons_succ, List.getElem_cons_zero])
          | (refine wpC_held (v := ?_) rfl (by rfl) ?_ ?_
             rotate_left 1
             · (rintro w ⟨x0, x1⟩; go_simp; try with_reducible rfl)
             try simp only [Act.put, List.setIfInBounds_toArray, List.set_cons_zero, List.set_cons_succ, List.getElem_toArray, List.getElem_cons_succ, List.getElem_cons_zero]))
        refine wpC_last rfl (by rfl) (fun K hK => ?_)
        go_simp
        refine hK _ _ ?_
        clear hK K
        try simp only [Act.put, List.setIfInBounds_toArray, List.set_cons_zero, List.set_cons_succ, List.getElem_toArray, List.getElem_cons_succ, List.getElem_cons_zero]
        refine wpC_nil ?_
        have hbA2 : (w1.setCell ⟨a, 6, none⟩ (.slice ao1 1 cp1)).heap[a]? = some (.cells (treeRow p (.pointer none) (.slice ao1 1 cp1) 0) 69 (0, 0)) := heap_set_self hbA1
        have hbT2 := heap_set_other (a := ⟨a, 6, none⟩) (v := .slice ao1 1 cp1) hbT1 (by simp; omega)
        have hown2 := own_set_other hown1 (a := ⟨a, 6, none⟩) (.slice ao1 1 cp1) (fun e => by have := own_ge hown1 e; simp at this; omega)
        have hkw2 := hkw1.setCell (p := ⟨a, 6, none⟩) (.inr haw) (.slice ao1 1 cp1)
        have hq2 := hq1.setCell (p := ⟨a, 6, none⟩) (.inl (by simp)) (.slice ao1 1 cp1)

        have HF := Lib.hid (And.intro HTA.out.2 (And.intro HTA.out.1 (And.intro hq2 (And.intro hkq.size (And.intro hbA2 (And.intro hbT2 hown2))))))
        clear hown1 hgrow hbA1 hbT1 hbA2 hbT2 hown2 hq1 hq2 hnil hat
        go_wp2_with fail
        exact ⟨.inr (.inl ⟨t1, r1, b, ao1, cp1, wq, Lib.hid rfl, rfl, HF, hkw2⟩), by simp only [intOf]; omega⟩
    · obtain ⟨hxa, hTr, hq, hqs, hbA, hbT, hown1⟩ := hst.out
      have hgM := HM.out
      rw [hg.out] at hgM
      have HGM := Lib.hid hgM
      obtain ⟨aox, capx, rfl, _, _⟩ := id hxa
      rcases hown1.2 with ⟨he, h0⟩ | ⟨lb, cp, cur, he, hlb, hlg, hnc, hcm1, _, _⟩
      · cases he
      cases he
      have hparts := growM_parts hg.out
      have hGw := HO.out.keep hk (by simp)
      have hC := HIH.out r1 u _ wr ⟨hu.then hk, HG.out.keep hk, fun y hy => HOK.out y (by rw [hparts]; simp [hy]), hGw, hxa⟩
      have hlgs := heap_lt hlg
      have hTs := heap_lt hbT
      have HC := Lib.hid hC
      have HGr1 := hg
      cases hg2 : growM d r1 with
      | none =>
        rw [hg2] at HC
        have HR : Hid (growM (d + 1) (p :: l) = none) := Lib.hid (by rw [HGM.out]; simp only [binM, hg2, binM.bin2M])
        clear hst hgM hg hC hown1 hTr hq hbA hbT hparts hlg hnc hcm1
        go_wp2_with (go_at_call 40; refine HC.out.mono ?_; rintro e wq ⟨h, hkq⟩; have h := h.none_form; subst h)
        go_returns
        exact ⟨by rw [HR.out]; rfl, hk.then hkq⟩
      | some q =>
        obtain ⟨t2, r2⟩ := q
        rw [hg2] at HC
        have HGr2 := Lib.hid hg2
        clear hst hgM hg hC hg2 hparts hlg
        go_wp2_with (go_at_call 40; refine HC.out.mono ?_; rintro e wq ⟨h, hkq⟩; obtain ⟨b2, v', h, hTr2, hAr⟩ := h.some_form; subst h)
        have hbA' := hkq.heap hbA (by simp)
        have hbT' := hkq.heap hbT (by simp)
        have hkw := hk.then hkq
        have cT : wq.cell? ⟨T, 0, none⟩ = some (.pointer (some ⟨a, 0, none⟩)) := by simp [World.cell?, hbT']
        have ca6 : wq.cell? ⟨a, 6, none⟩ = some (.slice (some ⟨lb, 0, none⟩) 1 c) := (node_cells hbA').2.2.2.2.2.2.1
        have za6 : wq.frozen? ⟨a, 6, none⟩ = false := by simp [World.frozen?, hbA']
        have hTq : T < wq.heap.size := Nat.lt_of_lt_of_le hTs hkq.size
        have hown := Lib.hid (own_kept hown1 hkq (by simp))
        have hqb : wq1.heap.size ≤ wq.heap.size := Nat.le_trans (Nat.le_trans hlb (Nat.le_of_lt hlgs)) hkq.size
        have hqk := hq.then hkq
        clear HC hown1 hq
        refine wp_region_chain (fun W' => W'.cell? ⟨T, 0, none⟩ = some (.pointer (some ⟨a, 0, none⟩)) ∧ W'.cell? ⟨a, 6, none⟩ = some (.slice (some ⟨lb, 0, none⟩) 1 c)) [10] [(0, 1), (1, 1), (2, 0), (3, 0), (4, 1), (5, 0), (6, 2), (7, 2), (8, 0), (9, 0), (10, 3)] (by kernel_rfl) (by kernel_rfl) (fun _ d _ _ _ h => by cases d <;> exact h) ⟨cT, ca6⟩ ?_
        repeat (first
          | (refine wpC_pure (v := ?_) rfl (by rfl) ?_ ?_
             rotate_left 1
             · (intro w; go_simp; try with_reducible rfl)
             try simp only [Act.put, List.setIfInBounds_toArray, List.set_cons_zero, List.set_cons_succ, List.getElem_toArray, List.getElem_cons_succ, List.getElem_cons_zero])
          | (refine wpC_held (v := ?_) rfl (by rfl) ?_ ?_
             rotate_left 1
             · (rintro w ⟨x0, x1⟩; go_simp; try with_reducible rfl)
             try simp only [Act.put, List.setIfInBounds_toArray, List.set_cons_zero, List.set_cons_succ, List.getElem_toArray, List.getElem_cons_succ, List.getElem_cons_zero]))
        refine wpC_step rfl (by rfl) (fun K hK => ?_)
        go_simp
        refine hK _ _ ⟨(Keeps.alloc (Keeps.refl [] _) _).cell (show wq.drew.cell? _ = _ from cT) (by simp), (Keeps.alloc (Keeps.refl [] _) _).cell (show wq.drew.cell? _ = _ from ca6) (by simp)⟩ ?_
        clear hK K
        try simp only [Act.put, List.setIfInBounds_toArray, List.set_cons_zero, List.set_cons_succ, List.getElem_toArray, List.getElem_cons_succ, List.getElem_cons_zero]
        refine wpC_step rfl (by rfl) (fun K hK => ?_)
        refine wp_append_any rtTree _ _ (by rfl) wq1.heap.size (.slice (some ⟨lb, 0, none⟩) 1 c) 1 [.pointer (some ⟨b, 0, none⟩)] (by rfl) (hown.out.drew.alloc _) _ 1 [.pointer (some ⟨b2, 0, none⟩)] (by rfl) (SlC.of_block (cs := #[.pointer (some ⟨b2, 0, none⟩)]) (t := 64) (fr := (0, 0)) (heap_alloc_new _ _) (by rfl)) (by simp [Value.oneCell']) (by omega) (by unfold maxLen; omega) (by first | (simp; done) | (simp; omega)) ?_
        intro ao1 cp1 w1 hown1 hgrow hat hnil
        have hno : ∀ x, x < wq1.heap.size → ¬ some x = Value.ownBlock (.slice (some ⟨lb, 0, none⟩) 1 c) := fun x hx e => by have := own_ge hown.out e.symm; omega
        have hbA1 : w1.heap[a]? = some (.cells (treeRow p (.pointer none) (.slice (some ⟨lb, 0, none⟩) 1 c) 0) 69 (0, 0)) := by
          rw [hgrow.block a (by simp; omega) (hno a (by omega))]
          exact alloc_old (w := wq.drew) hbA' _
        have hbT1 : w1.heap[T]? = some (.cells #[.pointer (some ⟨a, 0, none⟩)] 64 (0, 0)) := by
          rw [hgrow.block T (by simp; omega) (hno T (by omega))]
          exact alloc_old (w := wq.drew) hbT' _
        have cT1 : w1.cell? ⟨T, 0, none⟩ = some (.pointer (some ⟨a, 0, none⟩)) := by simp [World.cell?, hbT1]
        have ca61 : w1.cell? ⟨a, 6, none⟩ = some (.slice (some ⟨lb, 0, none⟩) 1 c) := (node_cells hbA1).2.2.2.2.2.2.1
        have za61 : w1.frozen? ⟨a, 6, none⟩ = false := by simp [World.frozen?, hbA1]
        have hkw1 : Keeps [] w w1 := (hkw.drew.alloc _).grown hgrow (fun k h => .inr (by have := own_ge hown.out h; omega))
        have hq1 : Keeps [a] wq1 w1 := (hqk.drew.alloc _).grown hgrow (fun k h => .inr (own_ge hown.out h))
        have hp1 : Keeps [a, lb] wq w1 := ((Keeps.refl [a, lb] wq).drew.alloc _).grown hgrow (fun k h => .inl (by cases h; simp))
        refine hK _ _ ⟨cT1, ca61⟩ ?_
        clear hK K
        try simp only [Act.put, List.setIfInBounds_toArray, List.set_cons_zero, List.set_cons_succ, List.getElem_toArray, List.getElem_cons_succ, List.getElem_cons_zero]
        repeat (first
          | (refine wpC_pure (v := ?_) rfl (by rfl) ?_ ?_
             rotate_left 1
             · (intro w; go_simp; try with_reducible rfl)
             try simp only [Act.put, List.setIfInBounds_toArray, List.set_cons_zero, List.set_cons_succ, List.getElem_toArray, List.getElem_cons_succ, List.getElem_cons_zero])
          | (refine wpC_held (v := ?_) rfl (by rfl) ?_ ?_
             rotate_left 1
             · (rintro w ⟨x0, x1⟩; go_simp; try with_reducible rfl)
             try simp only [Act.put, List.setIfInBounds_toArray, List.set_cons_zero, List.set_cons_succ, List.getElem_toArray, List.getElem_cons_succ, List.getElem_cons_zero]))
        refine wpC_last rfl (by rfl) (fun K hK => ?_)
        go_simp
        refine hK _ _ ?_
        clear hK K
        try simp only [Act.put, List.setIfInBounds_toArray, List.set_cons_zero, List.set_cons_succ, List.getElem_toArray, List.getElem_cons_succ, List.getElem_cons_zero]
        refine wpC_nil ?_
        have hbA2 : (w1.setCell ⟨a, 6, none⟩ (.slice ao1 2 cp1)).heap[a]? = some (.cells (treeRow p (.pointer none) (.slice ao1 2 cp1) 0) 69 (0, 0)) := heap_set_self hbA1
        have hbT2 := heap_set_other (a := ⟨a, 6, none⟩) (v := .slice ao1 2 cp1) hbT1 (by simp; omega)
        have hown2 := own_set_other hown1 (a := ⟨a, 6, none⟩) (.slice ao1 2 cp1) (fun e => by have := own_ge hown1 e; simp at this; omega)
        have hkw2 := hkw1.setCell (p := ⟨a, 6, none⟩) (.inr haw) (.slice ao1 2 cp1)
        have hq2 := hq1.setCell (p := ⟨a, 6, none⟩) (.inl (by simp)) (.slice ao1 2 cp1)
        have hp2 := hp1.setCell (p := ⟨a, 6, none⟩) (.inl (by simp)) (.slice ao1 2 cp1)
        have hS2 : (∀ y ∈ [a, lb], y < wr.heap.size) ∧ w3.heap.size ≤ wr.heap.size ∧ a < wr.heap.size := ⟨by intro y hy; simp at hy; rcases hy with rfl | rfl <;> omega, by omega, by omega⟩
        have HF := Lib.hid (And.intro hAr (And.intro (And.intro hTr hq2) (And.intro (And.intro hTr2 (And.intro hp2 hS2)) (And.intro hqs (And.intro hbA2 (And.intro hbT2 hown2))))))
        clear hown1 hgrow hbA1 hbT1 hbA2 hbT2 hown2 hq1 hq2 hp1 hp2 hnil hat hTr hTr2 hAr
        go_wp2_with fail
        exact ⟨.inr (.inr ⟨t1, r1, t2, r2, b, b2, ao1, cp1, wq1, wq, [a, lb], wr.heap.size, Lib.hid ⟨HGr1.out, HGr2.out⟩, rfl, HF, hkw2⟩), by simp only [intOf]; omega⟩
    · obtain ⟨hxa, ⟨hTr1, hq1⟩, ⟨hTr2, hq2, hS2, hB2, haB⟩, hqs, hbA, hbT, hown⟩ := hst.out
      obtain ⟨aox, capx, rfl, _, _⟩ := id hxa
      rcases hown.2 with ⟨he, h0⟩ | ⟨lb, cp, cur, he, hlb, hlg, hnc, hcm1, _, _⟩
      · cases he
      cases he
      have hmf : ∀ (fn : Fn) (first cap : Array Value) (w : World), (Instr.makeFunc fn first cap).run Tryz.prog w = .ok (.func fn first cap) w := fun _ _ _ _ => rfl
      obtain ⟨ca0, _, _, _, _, ca5, ca6, ca7⟩ := node_cells hbA
      have cT : wr.cell? ⟨T, 0, none⟩ = some (.pointer (some ⟨a, 0, none⟩)) := by simp [World.cell?, hbT]
      have HIX := Lib.hid (indexOp_any O T a p.kind HP.out.1 HP.out.2 wr (HO.out.keep hk (by simp)) cT ca0)
      clear hst
      go_wp2_with (go_at_call 58; refine HIX.out.mono ?_; rintro e wi ⟨rfl, hki⟩)
      obtain ⟨m, hm⟩ : ∃ m, m = opN p.kind := ⟨_, rfl⟩
      have hmk : p.kind - 4 = (m : Int) := by have := HP.out; rw [hm]; unfold opN; omega
      have hm9 : m < 9 := by have := HP.out; rw [hm]; unfold opN; omega
      rw [hmk]
      have hbAi := hki.heap hbA (by simp)
      have hbTi := hki.heap hbT (by simp)
      obtain ⟨ia0, _, _, _, _, ia5, ia6, ia7⟩ := node_cells hbAi
      have iT : wi.cell? ⟨T, 0, none⟩ = some (.pointer (some ⟨a, 0, none⟩)) := by simp [World.cell?, hbTi]
      have zi5 : wi.frozen? ⟨a, 5, none⟩ = false := by simp [World.frozen?, hbAi]
      have HMM := Lib.hid (And.intro hm hmk)
      have bi0 : (0 : Int) ≤ (m : Int) := by omega
      have bi1 : (m : Int) < 9 := by omega
      clear hm hmk
      refine wp_region_chain (fun W' => W'.cell? ⟨T, 0, none⟩ = some (.pointer (some ⟨a, 0, none⟩)) ∧ W'.cell? ⟨a, 5, none⟩ = some (.pointer none) ∧ W'.frozen? ⟨a, 5, none⟩ = false) [6] [(0, 1), (1, 0), (2, 0), (3, 0), (4, 0), (5, 0), (6, 3)] (by kernel_rfl) (by kernel_rfl) (fun _ d _ _ _ h => by cases d <;> exact h) ⟨iT, ia5, zi5⟩ ?_
      repeat (first
        | (refine wpC_pure (v := ?_) rfl (by rfl) ?_ ?_
           rotate_left 1
           · (intro w; go_simp; try with_reducible rfl)
           try simp only [Act.put, List.setIfInBounds_toArray, List.set_cons_zero, List.set_cons_succ, List.getElem_toArray, List.getElem_cons_succ, List.getElem_cons_zero])
        | (refine wpC_held (v := ?_) rfl (by rfl) ?_ ?_
           rotate_left 1
           · (rintro w ⟨x0, x1, x2⟩; go_simp; try with_reducible rfl)
           try simp only [Act.put, List.setIfInBounds_toArray, List.set_cons_zero, List.set_cons_succ, List.getElem_toArray, List.getElem_cons_zero]))
      refine wpC_last rfl (by rfl) (fun K hK => ?_)
      go_simp
      refine hK _ _ ?_
      clear hK K
      try simp only [Act.put, List.setIfInBounds_toArray, List.set_cons_zero, List.set_cons_succ, List.getElem_toArray, List.getElem_cons_succ, List.getElem_cons_zero]
      refine wpC_nil ?_
      go_wp2_with fail
      have hOi := ops_cells ((HO.out.keep hk (by simp)).keep hki (by simp)) m hm9
      have hOa : O ≠ a := by have h1 := heap_lt HO.out; omega
      obtain ⟨wj, hwj⟩ : ∃ wj, wj = (wi.setCell ⟨a, 5, none⟩ (.pointer (some ⟨O, m * 7, none⟩))).drew := ⟨_, rfl⟩
      have hbAj : wj.heap[a]? = some (.cells (treeRow p (.pointer (some ⟨O, m * 7, none⟩)) (.slice (some ⟨lb, 0, none⟩) 2 c) 0) 69 (0, 0)) := by rw [hwj]; exact heap_set_self hbAi
      have hbTj : wj.heap[T]? = some (.cells #[.pointer (some ⟨a, 0, none⟩)] 64 (0, 0)) := by rw [hwj]; exact heap_set_other (a := ⟨a, 5, none⟩) hbTi (by simp; omega)
      have hkij : Keeps [a] wi wj := by rw [hwj]; exact ((Keeps.refl [a] wi).setCell (.inl (by simp)) _).drew
      have hOj := hkij.cell hOi.2.2.2.2.2.1 (by simp; exact hOa)
      rw [← hwj]
      clear hwj
      obtain ⟨_, _, _, _, _, ja5, ja6, ja7⟩ := node_cells hbAj
      have jT : wj.cell? ⟨T, 0, none⟩ = some (.pointer (some ⟨a, 0, none⟩)) := by simp [World.cell?, hbTj]
      have zj7 : wj.frozen? ⟨a, 7, none⟩ = false := by simp [World.frozen?, hbAj]
      have hO3 := hkij.cell hOi.2.2.2.1 (by simp; exact hOa)
      have hO4 := hkij.cell hOi.2.2.2.2.1 (by simp; exact hOa)
      obtain ⟨is_, his⟩ : ∃ is_, (opsL.getD m ⟨⟨#[]⟩, 0, 0, 0, 0, 0⟩).is_ = is_ := ⟨_, rfl⟩
      obtain ⟨of_, hof⟩ : ∃ of_, (opsL.getD m ⟨⟨#[]⟩, 0, 0, 0, 0, 0⟩).of_ = of_ := ⟨_, rfl⟩
      obtain ⟨ot, hot⟩ : ∃ ot, (opsL.getD m ⟨⟨#[]⟩, 0, 0, 0, 0, 0⟩).other = ot := ⟨_, rfl⟩
      rw [his] at hOj
      rw [hof] at hO3
      rw [hot] at hO4
      have HOP : Hid ((opAt p.kind).is_ = is_ ∧ (opAt p.kind).of_ = of_ ∧ (opAt p.kind).other = ot ∧ opN p.kind = m) := Lib.hid (by unfold opAt; rw [← HMM.out.1]; exact ⟨his, hof, hot, rfl⟩)
      refine wp_region_chain (fun W' => W'.cell? ⟨T, 0, none⟩ = some (.pointer (some ⟨a, 0, none⟩)) ∧ W'.cell? ⟨a, 5, none⟩ = some (.pointer (some ⟨O, m * 7, none⟩)) ∧ W'.cell? ⟨O, m * 7 + 5, none⟩ = some (.int .i64 is_) ∧ W'.cell? ⟨a, 7, none⟩ = some (.int .i64 0) ∧ W'.frozen? ⟨a, 7, none⟩ = false) [10] [(0, 1), (1, 1), (2, 0), (3, 0), (4, 1), (5, 0), (6, 0), (7, 1), (8, 0), (9, 0), (10, 3)] (by kernel_rfl) (by kernel_rfl) (fun _ d _ _ _ h => by cases d <;> exact h) ⟨jT, ja5, hOj, ja7, zj7⟩ ?_
      repeat (first
        | (refine wpC_pure (v := ?_) rfl (by rfl) ?_ ?_
           rotate_left 1
           · (intro w; go_simp; try with_reducible rfl)
           try simp only [Act.put, List.setIfInBounds_toArray, List.set_cons_zero, List.set_cons_succ, List.getElem_toArray, List.getElem_cons_succ, List.getElem_cons_zero])
        | (refine wpC_held (v := ?_) rfl (by rfl) ?_ ?_
           rotate_left 1
           · (rintro w ⟨x0, x1, x2, x3, x4⟩; go_simp; try with_reducible rfl)
           try simp only [Act.put, List.setIfInBounds_toArray, List.set_cons_zero, List.set_cons_succ, List.getElem_toArray, List.getElem_cons_succ, List.getElem_cons_zero]))
      refine wpC_last rfl (by rfl) (fun K hK => ?_)
      go_simp
      refine hK _ _ ?_
      clear hK K
      try simp only [Act.put, List.setIfInBounds_toArray, List.set_cons_zero, List.set_cons_succ, List.getElem_toArray, List.getElem_cons_succ, List.getElem_cons_zero]
      refine wpC_nil ?_
      have hk7 : Keeps [a] wj (wj.setCell ⟨a, 7, none⟩ (.int .i64 is_)).drew := ((Keeps.refl [a] wj).setCell (.inl (by simp)) _).drew
      have hrj : Keeps [a] wr wj := (hki.mono (by simp)).trans hkij (by simp)
      obtain ⟨wk, hwk⟩ : ∃ wk, wk = (wj.setCell ⟨a, 7, none⟩ (.int .i64 is_)).drew := ⟨_, rfl⟩
      have hbAk : wk.heap[a]? = some (.cells (treeRow p (.pointer (some ⟨O, m * 7, none⟩)) (.slice (some ⟨lb, 0, none⟩) 2 c) is_) 69 (0, 0)) := by rw [hwk]; exact heap_set_self hbAj
      have hbTk : wk.heap[T]? = some (.cells #[.pointer (some ⟨a, 0, none⟩)] 64 (0, 0)) := by rw [hwk]; exact heap_set_other (a := ⟨a, 7, none⟩) hbTj (by simp; omega)
      have hrk : Keeps [a] wr wk := by rw [hwk]; exact hrj.trans hk7 (by simp)
      have hkk : Keeps [] w wk := by rw [hwk]; exact ((hk.then hki).trans hkij (by simp; omega)).trans hk7 (by simp; omega)
      have hwkj : Keeps [a] wj wk := by rw [hwk]; exact hk7
      rw [← hwk]
      clear hwk
      have hol0 := hown.cells rfl 0 _ rfl
      have hol1 := hown.cells rfl 1 _ rfl
      simp only [addr_add, Nat.zero_add] at hol0 hol1
      have hla : lb ≠ a := by omega
      have c0k : wk.cell? ⟨lb, 0, none⟩ = some (.pointer (some ⟨b1, 0, none⟩)) := hrk.cell hol0 (by simp; exact hla)
      have c1k : wk.cell? ⟨lb, 1, none⟩ = some (.pointer (some ⟨b2, 0, none⟩)) := hrk.cell hol1 (by simp; exact hla)
      have o3k : wk.cell? ⟨O, m * 7 + 3, none⟩ = some (.int .i64 of_) := hwkj.cell hO3 (by simp; exact hOa)
      have o4k : wk.cell? ⟨O, m * 7 + 4, none⟩ = some (.int .i64 ot) := hwkj.cell hO4 (by simp; exact hOa)
      have T1k := hTr1.keepS (hq1.trans hrk (by simp)) (by simp; omega)
      have T2k := hTr2.keepS (S := a :: S2) ((hq2.mono (by simp; intro x hx _; exact .inr hx)).trans hrk (by simp)) (by intro x hx; simp at hx; rcases hx with rfl | hx; exact haB; exact hS2 x hx)
      obtain ⟨op1, sl1, hn1⟩ := T1k.node
      obtain ⟨op2, sl2, hn2⟩ := T2k.node
      obtain ⟨_, _, _, _, _, _, _, k1c⟩ := node_cells hn1
      obtain ⟨_, _, _, _, _, _, _, k2c⟩ := node_cells hn2
      obtain ⟨_, _, _, _, _, ka5, ka6, ka7⟩ := node_cells hbAk
      have kT : wk.cell? ⟨T, 0, none⟩ = some (.pointer (some ⟨a, 0, none⟩)) := by simp [World.cell?, hbTk]
      have hcm2 : c ≤ 9223372036854775807 := by unfold maxLen at hcm1; exact hcm1
      have hfin : TreeAt wk O w.heap.size (.bin p t1 t2) a :=
        ⟨haw, HP.out, lb, c, b1, b2, by rw [HOP.out.2.2.2, HOP.out.1]; exact hbAk, by have := hk3.size; omega, hnc, hcm2, c0k, c1k, T1k.mono (by have := hk3.size; omega), T2k.mono (by have := hk3.size; omega)⟩
      have HFIN := Lib.hid hfin
      have HXA := Lib.hid hxa
      have hgM := HM.out
      rw [hg.out.1] at hgM
      simp only [binM, hg.out.2] at hgM
      have HGM := Lib.hid hgM
      obtain ⟨k1, hk1⟩ : ∃ k1, t1.kind = k1 := ⟨_, rfl⟩
      obtain ⟨k2, hk2⟩ : ∃ k2, t2.kind = k2 := ⟨_, rfl⟩
      rw [hk1] at k1c
      rw [hk2] at k2c
      have HK := Lib.hid (And.intro hk1 hk2)
      clear hg hgM hown hlg hTr1 hTr2 hn1 hn2 T1k T2k hbA hbT hbAi hbTi hbAj hbTj hbAk hbTk hq1 hq2 hfin hxa hk1 hk2 hlb hqs hcm1 hrj hk7 hrk hO3 hO4 hOj hOi hol0 hol1
      by_cases e12 : k1 = k2
      · subst e12
        by_cases eof : k1 = of_
        · have HR := Lib.hid (HGM.out.trans (bin_good (HK.out.1.trans HK.out.2.symm) (.inl (HK.out.1.trans (eof.trans HOP.out.2.1.symm)))))
          subst eof
          go_wp2_with fail
          go_returns
          exact ⟨by rw [HR.out]; exact ⟨a, _, rfl, HFIN.out, HXA.out⟩, hkk⟩
        · have d3 : (k1 != of_) = true := by rw [bne_iff_ne]; exact eof
          by_cases eot : k1 = ot
          · have HR := Lib.hid (HGM.out.trans (bin_good (HK.out.1.trans HK.out.2.symm) (.inr (HK.out.1.trans (eot.trans HOP.out.2.2.1.symm)))))
            subst eot
            clear eof
            go_wp2_with fail
            go_returns
            exact ⟨by rw [HR.out]; exact ⟨a, _, rfl, HFIN.out, HXA.out⟩, hkk⟩
          · have d4 : (k1 != ot) = true := by rw [bne_iff_ne]; exact eot
            have HR := Lib.hid (HGM.out.trans (bin_bad2 (fun e => eof (HK.out.1.symm.trans (e.trans HOP.out.2.1))) (fun e => eot (HK.out.1.symm.trans (e.trans HOP.out.2.2.1)))))
            clear eof eot
            go_wp2_with fail
            go_returns
            exact ⟨by rw [HR.out]; rfl, hkk⟩
      · have d3 : (k1 != k2) = true := by rw [bne_iff_ne]; exact e12
        have HR := Lib.hid (HGM.out.trans (bin_bad1 (fun e => e12 (HK.out.1.symm.trans (e.trans HK.out.2)))))
        clear e12
        go_wp2_with fail
        go_returns
        exact ⟨by rw [HR.out]; rfl, hkk⟩

end Go.Proofs.YtefcmijobbgpbaaGreatDoor
