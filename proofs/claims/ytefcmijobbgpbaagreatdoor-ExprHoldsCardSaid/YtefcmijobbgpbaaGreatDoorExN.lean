/- A tree's tokens: the closures, leaves. Conditions: those of each theorem. -/
import Derived.Test.YtefcmijobbgpbaaGreatDoorExK
import Derived.Test.YtefcmijobbgpbaaGreatDoorExE
import Derived.Test.YtefcmijobbgpbaaGreatDoorT5
namespace Go.Proofs.YtefcmijobbgpbaaGreatDoor
open Go.RowKit

theorem own_new (w : World) (cs : Array Value) (t : TypeId) (size n : Nat) (hs : cs.size = n * size) (hm : n ≤ maxLen) : (w.alloc (.cells cs t (0, 0))).ownsRow w.heap.size t size (.slice (some ⟨w.heap.size, 0, none⟩) n n) n cs.toList :=
  ⟨by simpa using hs, .inr ⟨w.heap.size, n, cs, rfl, Nat.le_refl _, heap_alloc_new w _, Nat.le_refl _, hm, hs, by rw [List.take_of_length_le]; simp [hs]⟩⟩

theorem own_mono {w : World} {base base' : Nat} {e : TypeId} {size : Nat} {v : Value} {n : Nat} {xs : List Value} (h : w.ownsRow base e size v n xs) (hb : base' ≤ base) : w.ownsRow base' e size v n xs := by
  refine ⟨h.1, ?_⟩
  rcases h.2 with h2 | ⟨g, cap, cur, rfl, hg, r⟩
  · exact .inl h2
  · exact .inr ⟨g, cap, cur, rfl, Nat.le_trans hb hg, r⟩

theorem ret_row1 {P : Program} {fn : Func} {R : Ending → World → Prop} {a : Act} {w : World} {p : Tmp} {ty : TypeId} (h : fn.results = #[.cell p ty]) (g : Nat) (t : TypeId) (cs : Array Value) (fr : Nat × Nat) (d : TypeDesc)
    (hp : a.tmps.getD p undef = .pointer (some ⟨g, 0, none⟩)) (hg : w.heap[g]? = some (.cells cs t fr))
    (hu : P.underlying ty = some d) (hd : (match d with | .struct _ | .array _ _ => true | _ => false) = true) (hi : (P.info? ty).map (·.size) = some cs.size) (hdf : a.defers = [])
    (hR : R (.returned (.agg cs)) w) : bodyPost P fn R .ret a w := by
  refine bodyPost_ret (v := .agg cs) ?_ hdf hR
  have hp' : a.tmps[p]?.getD undef = .pointer (some ⟨g, 0, none⟩) := by simpa using hp
  simp [results, h, hp', asAddr, run_loadVar_row w g t ty cs fr d hg hu hd hi]

theorem ba_empty {a : ByteArray} (h : a.data.toList = []) : a = ⟨#[]⟩ := by
  cases a
  simp only at h
  congr 1
  exact Array.toList_inj.1 h

set_option maxHeartbeats 2000000 in
set_option maxRecDepth 100000 in
theorem tokSign_any (s : ByteArray) (w : World) :
    Calls Tryz.prog 46 #[.string s] w fun e w' => e = .returned (.agg #[.int .i64 4, .string s, .int .i64 0, .int .i64 0]) ∧ Keeps [] w w' := by
  have hk0 := Keeps.refl [] w
  go_enter Tryz.func46, Tryz.ntmps46
  go_wp2_with fail
  refine ret_row1 rfl w.heap.size _ _ _ _ rfl (heap_alloc_new _ _) Tryz.underlying91 rfl (by kernel_rfl) rfl ?_
  exact ⟨rfl, hk0.alloc _⟩

set_option maxHeartbeats 2000000 in
set_option maxRecDepth 100000 in
theorem tokWord_any (s : ByteArray) (w : World) :
    Calls Tryz.prog 47 #[.string s] w fun e w' => e = .returned (.agg #[.int .i64 1, .string s, .int .i64 0, .int .i64 0]) ∧ Keeps [] w w' := by
  have hk0 := Keeps.refl [] w
  go_enter Tryz.func47, Tryz.ntmps47
  go_wp2_with fail
  refine ret_row1 rfl w.heap.size _ _ _ _ rfl (heap_alloc_new _ _) Tryz.underlying91 rfl (by kernel_rfl) rfl ?_
  exact ⟨rfl, hk0.alloc _⟩

/-- What tokens answers. -/
def TokOut (B : Nat) (l : List TokR) (e : Ending) (w' : World) : Prop := ∃ ao n cp, e = .returned (.slice ao n cp) ∧ l.length = n ∧ w'.ownsRow B 91 4 (.slice ao n cp) n (rowOf l)

set_option maxHeartbeats 4000000 in
set_option maxRecDepth 100000 in
theorem tokens_num (O B a : Nat) (p : PartR) (outer : Bool) (w : World) (h1 : p.kind = 1) (hT : TreeAt w O B (.leaf p) a) :
    Calls Tryz.prog 28 #[.pointer (some ⟨a, 0, none⟩), .bool outer] w fun e w' => TokOut w.heap.size (leafToks p) e w' ∧ Keeps [] w w' := by
  have hk0 := Keeps.refl [] w
  obtain ⟨c0, c1, c2, c3, c4, c5, c6, c7⟩ := node_cells hT.2.1
  obtain ⟨kd, n, s, st, f⟩ := p
  simp only at h1 c0 c1 c2 c3 c4
  subst h1
  clear hT
  go_enter Tryz.func28, Tryz.ntmps28
  go_wp2_with fail
  go_returns
  exact ⟨⟨_, _, _, rfl, rfl, own_new w #[.int .i64 2, .string ⟨#[]⟩, .int .i64 n, .int .i64 0] 91 4 1 rfl (by decide)⟩, hk0.alloc _⟩

set_option maxHeartbeats 4000000 in
set_option maxRecDepth 100000 in
theorem tokens_text (O B a : Nat) (p : PartR) (outer : Bool) (w : World) (h1 : p.kind = 2) (hT : TreeAt w O B (.leaf p) a) :
    Calls Tryz.prog 28 #[.pointer (some ⟨a, 0, none⟩), .bool outer] w fun e w' => TokOut w.heap.size (leafToks p) e w' ∧ Keeps [] w w' := by
  have hk0 := Keeps.refl [] w
  obtain ⟨c0, c1, c2, c3, c4, c5, c6, c7⟩ := node_cells hT.2.1
  obtain ⟨kd, n, s, st, f⟩ := p
  simp only at h1 c0 c1 c2 c3 c4
  subst h1
  clear hT
  go_enter Tryz.func28, Tryz.ntmps28
  go_wp2_with fail
  go_returns
  exact ⟨⟨_, _, _, rfl, rfl, own_new w #[.int .i64 3, .string s, .int .i64 0, .int .i64 0] 91 4 1 rfl (by decide)⟩, hk0.alloc _⟩


theorem field_cell (w : World) (m : Nat) (hm : m ≤ 5) : (w.alloc (.cells fieldCells 9)).cell? ⟨w.heap.size, m, none⟩ = some (.string (fieldWord (m : Int))) := by
  have hb := heap_alloc_new w (.cells fieldCells 9)
  have hc : m = 0 ∨ m = 1 ∨ m = 2 ∨ m = 3 ∨ m = 4 ∨ m = 5 := by omega
  rcases hc with rfl | rfl | rfl | rfl | rfl | rfl <;> (simp only [World.cell?, hb]; rfl)

set_option maxHeartbeats 4000000 in
set_option maxRecDepth 100000 in
/-- A field of the event at hand. -/
theorem tokens_own (O B a : Nat) (p : PartR) (outer : Bool) (w : World) (hG : GlobX w) (h1 : p.kind = 3) (hf0 : 0 ≤ p.field) (hf5 : p.field ≤ 5) (hst : p.stage.data.toList = []) (hT : TreeAt w O B (.leaf p) a) :
    Calls Tryz.prog 28 #[.pointer (some ⟨a, 0, none⟩), .bool outer] w fun e w' => TokOut w.heap.size (leafToks p) e w' ∧ Keeps [] w w' := by
  have hk0 := Keeps.refl [] w
  obtain ⟨c0, c1, c2, c3, c4, c5, c6, c7⟩ := node_cells hT.2.1
  obtain ⟨m, hm⟩ : ∃ m : Nat, p.field = (m : Int) := ⟨p.field.toNat, by omega⟩
  have HM : Hid (m ≤ 5) := Lib.hid (by omega)
  have b0 : (0 : Int) ≤ (m : Int) := by omega
  have b1 : (m : Int) < 6 := by omega
  have HL : Hid (leafToks p = [wordT (fieldWord (m : Int))]) := Lib.hid (by rw [leafToks, if_neg (by omega), if_neg (by omega), if_pos hst, hm])
  have HF := fun w hG => Lib.hid (Fields_words w hG)
  have HW := fun s w => Lib.hid (tokWord_any s w)
  have HS := fun s w => Lib.hid (tokSign_any s w)
  have HG := Lib.hid hG
  have he : p.stage = ⟨#[]⟩ := ba_empty hst
  obtain ⟨kd, n, s, st, f⟩ := p
  simp only at h1 c0 c1 c2 c3 c4 he HL hm
  subst h1 he hm
  clear hT hst hG hf0 hf5
  go_enter Tryz.func28, Tryz.ntmps28
  go_wp2_with fail
  have x4 := (((Keeps.refl [] w).drew).alloc (.cells fieldCells 9)).cell c4 (by simp)
  have y4 := ((Keeps.refl [] w).drew).cell c4 (by simp)
  have zf := field_cell w.drew m HM.out
  have hGd : GlobX w.drew := HG.out.keep hk0.drew
  have hkd := (hk0).drew.alloc (.cells fieldCells 9)
  have hcd := (Keeps.refl [] w).drew.alloc (.cells fieldCells 9)
  have hfs : w.drew.heap.size = w.heap.size := rfl
  rw [hfs] at zf
  refine wp_region_tree (fun _ => True) [] (.op 0 0 (.op 1 0 (.op 3 0 (.op 4 0 (.op 5 0 (.op 6 0 (.alt 2 (.op 7 2 (.op 8 0 (.op 9 2 (.op 10 2 (.op 11 2 (.op 12 2 (.op 13 0 (.done)))))))) 7 (.op 2 2 (.op 8 0 (.op 9 2 (.op 10 2 (.op 11 2 (.op 12 2 (.op 13 0 (.done))))))))))))))) (by kernel_rfl) (by kernel_rfl) (fun _ d _ _ _ h => by cases d <;> exact h) trivial ?_
  repeat (first
    | (refine wpT_pure (v := ?_) rfl (by rfl) ?_ ?_
       rotate_left 1
       · (intro w; go_simp; try with_reducible rfl)
       try simp only [Act.put, List.setIfInBounds_toArray, List.set_cons_zero, List.set_cons_succ, List.getElem_toArray, List.getElem_cons_succ, List.getElem_cons_zero]))
  refine wpT_alt rfl rfl (by rfl) (by rfl) (fun K hK => ?_) (fun K hK => ?_)
  · skip
    go_simp
    refine (HF _ hGd).out.mono ?_
    rintro e w1 ⟨rfl, hw1⟩
    rw [← hw1] at x4 zf hkd hcd
    clear hw1
    refine hK _ _ trivial ?_
    clear hK K
    try simp only [Act.put, List.setIfInBounds_toArray, List.set_cons_zero, List.set_cons_succ, List.getElem_toArray, List.getElem_cons_succ, List.getElem_cons_zero]
    refine wpT_step rfl (by rfl) (fun K hK => ?_)
    go_simp
    refine hK _ _ trivial ?_
    clear hK K
    try simp only [Act.put, List.setIfInBounds_toArray, List.set_cons_zero, List.set_cons_succ, List.getElem_toArray, List.getElem_cons_succ, List.getElem_cons_zero]
    repeat (first
      | (refine wpT_pure (v := ?_) rfl (by rfl) ?_ ?_
         rotate_left 1
         · (intro w; go_simp; try with_reducible rfl)
         try simp only [Act.put, List.setIfInBounds_toArray, List.set_cons_zero, List.set_cons_succ, List.getElem_toArray, List.getElem_cons_succ, List.getElem_cons_zero]))
    refine wpT_step rfl (by rfl) (fun K hK => ?_)
    go_simp
    refine hK _ _ trivial ?_
    clear hK K
    try simp only [Act.put, List.setIfInBounds_toArray, List.set_cons_zero, List.set_cons_succ, List.getElem_toArray, List.getElem_cons_succ, List.getElem_cons_zero]
    refine wpT_step rfl (by rfl) (fun K hK => ?_)
    go_simp
    refine (HW _ _).out.mono ?_
    rintro e w2 ⟨rfl, hk2⟩
    refine hK _ _ trivial ?_
    clear hK K
    try simp only [Act.put, List.setIfInBounds_toArray, List.set_cons_zero, List.set_cons_succ, List.getElem_toArray, List.getElem_cons_succ, List.getElem_cons_zero]
    refine wpT_step rfl (by rfl) (fun K hK => ?_)
    go_simp
    refine hK _ _ trivial ?_
    clear hK K
    try simp only [Act.put, List.setIfInBounds_toArray, List.set_cons_zero, List.set_cons_succ, List.getElem_toArray, List.getElem_cons_succ, List.getElem_cons_zero]
    refine wpT_step rfl (by rfl) (fun K hK => ?_)
    have hkx := (hkd.then hk2).alloc (.cells #[.int .i64 1, .string (fieldWord (m : Int)), .int .i64 0, .int .i64 0] 91 (0, 0))
    have hcx := (hcd.then hk2).alloc (.cells #[.int .i64 1, .string (fieldWord (m : Int)), .int .i64 0, .int .i64 0] 91 (0, 0))
    refine wp_append_any rtTok _ _ (by rfl) w.heap.size (.slice none 0 0) 0 [] (by rfl) ⟨rfl, .inl ⟨rfl, rfl⟩⟩ _ 1 [.int .i64 1, .string (fieldWord (m : Int)), .int .i64 0, .int .i64 0] (by rfl) (SlC.of_block (cs := #[.int .i64 1, .string (fieldWord (m : Int)), .int .i64 0, .int .i64 0]) (t := 91) (fr := (0, 0)) (heap_alloc_new _ _) (by rfl)) (by simp [Value.oneCell']) (by omega) (by unfold maxLen; omega) hkx.size ?_
    intro ao1 cp1 w3 hown1 hgrow hat hnil
    have hk3 := hkx.grown hgrow (fun k h => .inr (by cases h))
    refine hK _ _ trivial ?_
    clear hK K
    try simp only [Act.put, List.setIfInBounds_toArray, List.set_cons_zero, List.set_cons_succ, List.getElem_toArray, List.getElem_cons_succ, List.getElem_cons_zero]
    repeat (first
      | (refine wpT_pure (v := ?_) rfl (by rfl) ?_ ?_
         rotate_left 1
         · (intro w; go_simp; try with_reducible rfl)
         try simp only [Act.put, List.setIfInBounds_toArray, List.set_cons_zero, List.set_cons_succ, List.getElem_toArray, List.getElem_cons_succ, List.getElem_cons_zero]))
    refine wpT_done ?_
    have HO := Lib.hid hown1
    have HK := Lib.hid hk3
    clear hown1 hgrow hat hnil hk3 hkd hk2 hkx hcx hcd
    go_wp2_with fail
    go_returns
    exact ⟨⟨_, _, _, rfl, by rw [HL.out]; rfl, by rw [HL.out]; exact HO.out⟩, HK.out⟩
  · skip
    go_simp
    refine hK _ _ trivial ?_
    clear hK K
    try simp only [Act.put, List.setIfInBounds_toArray, List.set_cons_zero, List.set_cons_succ, List.getElem_toArray, List.getElem_cons_succ, List.getElem_cons_zero]
    refine wpT_step rfl (by rfl) (fun K hK => ?_)
    go_simp
    refine (HF _ hGd).out.mono ?_
    rintro e w1 ⟨rfl, hw1⟩
    rw [← hw1] at x4 zf hkd hcd
    clear hw1
    refine hK _ _ trivial ?_
    clear hK K
    try simp only [Act.put, List.setIfInBounds_toArray, List.set_cons_zero, List.set_cons_succ, List.getElem_toArray, List.getElem_cons_succ, List.getElem_cons_zero]
    repeat (first
      | (refine wpT_pure (v := ?_) rfl (by rfl) ?_ ?_
         rotate_left 1
         · (intro w; go_simp; try with_reducible rfl)
         try simp only [Act.put, List.setIfInBounds_toArray, List.set_cons_zero, List.set_cons_succ, List.getElem_toArray, List.getElem_cons_succ, List.getElem_cons_zero]))
    refine wpT_step rfl (by rfl) (fun K hK => ?_)
    go_simp
    refine hK _ _ trivial ?_
    clear hK K
    try simp only [Act.put, List.setIfInBounds_toArray, List.set_cons_zero, List.set_cons_succ, List.getElem_toArray, List.getElem_cons_succ, List.getElem_cons_zero]
    refine wpT_step rfl (by rfl) (fun K hK => ?_)
    go_simp
    refine (HW _ _).out.mono ?_
    rintro e w2 ⟨rfl, hk2⟩
    refine hK _ _ trivial ?_
    clear hK K
    try simp only [Act.put, List.setIfInBounds_toArray, List.set_cons_zero, List.set_cons_succ, List.getElem_toArray, List.getElem_cons_succ, List.getElem_cons_zero]
    refine wpT_step rfl (by rfl) (fun K hK => ?_)
    go_simp
    refine hK _ _ trivial ?_
    clear hK K
    try simp only [Act.put, List.setIfInBounds_toArray, List.set_cons_zero, List.set_cons_succ, List.getElem_toArray, List.getElem_cons_succ, List.getElem_cons_zero]
    refine wpT_step rfl (by rfl) (fun K hK => ?_)
    have hkx := (hkd.then hk2).alloc (.cells #[.int .i64 1, .string (fieldWord (m : Int)), .int .i64 0, .int .i64 0] 91 (0, 0))
    have hcx := (hcd.then hk2).alloc (.cells #[.int .i64 1, .string (fieldWord (m : Int)), .int .i64 0, .int .i64 0] 91 (0, 0))
    refine wp_append_any rtTok _ _ (by rfl) w.heap.size (.slice none 0 0) 0 [] (by rfl) ⟨rfl, .inl ⟨rfl, rfl⟩⟩ _ 1 [.int .i64 1, .string (fieldWord (m : Int)), .int .i64 0, .int .i64 0] (by rfl) (SlC.of_block (cs := #[.int .i64 1, .string (fieldWord (m : Int)), .int .i64 0, .int .i64 0]) (t := 91) (fr := (0, 0)) (heap_alloc_new _ _) (by rfl)) (by simp [Value.oneCell']) (by omega) (by unfold maxLen; omega) hkx.size ?_
    intro ao1 cp1 w3 hown1 hgrow hat hnil
    have hk3 := hkx.grown hgrow (fun k h => .inr (by cases h))
    refine hK _ _ trivial ?_
    clear hK K
    try simp only [Act.put, List.setIfInBounds_toArray, List.set_cons_zero, List.set_cons_succ, List.getElem_toArray, List.getElem_cons_succ, List.getElem_cons_zero]
    repeat (first
      | (refine wpT_pure (v := ?_) rfl (by rfl) ?_ ?_
         rotate_left 1
         · (intro w; go_simp; try with_reducible rfl)
         try simp only [Act.put, List.setIfInBounds_toArray, List.set_cons_zero, List.set_cons_succ, List.getElem_toArray, List.getElem_cons_succ, List.getElem_cons_zero]))
    refine wpT_done ?_
    have HO := Lib.hid hown1
    have HK := Lib.hid hk3
    clear hown1 hgrow hat hnil hk3 hkd hk2 hkx hcx hcd
    go_wp2_with fail
    go_returns
    exact ⟨⟨_, _, _, rfl, by rw [HL.out]; rfl, by rw [HL.out]; exact HO.out⟩, HK.out⟩

set_option maxHeartbeats 4000000 in
set_option maxRecDepth 100000 in
/-- A field of a stage's event. -/
theorem tokens_stage (O B a : Nat) (p : PartR) (outer : Bool) (w : World) (hG : GlobX w) (h1 : p.kind = 3) (hf0 : 0 ≤ p.field) (hf5 : p.field ≤ 5) (hst : ¬ p.stage.data.toList = []) (hT : TreeAt w O B (.leaf p) a) :
    Calls Tryz.prog 28 #[.pointer (some ⟨a, 0, none⟩), .bool outer] w fun e w' => TokOut w.heap.size (leafToks p) e w' ∧ Keeps [] w w' := by
  have hk0 := Keeps.refl [] w
  obtain ⟨c0, c1, c2, c3, c4, c5, c6, c7⟩ := node_cells hT.2.1
  obtain ⟨m, hm⟩ : ∃ m : Nat, p.field = (m : Int) := ⟨p.field.toNat, by omega⟩
  have HM : Hid (m ≤ 5) := Lib.hid (by omega)
  have b0 : (0 : Int) ≤ (m : Int) := by omega
  have b1 : (m : Int) < 6 := by omega
  have HL : Hid (leafToks p = [wordT p.stage, signT bDot, wordT (fieldWord (m : Int))]) := Lib.hid (by rw [leafToks, if_neg (by omega), if_neg (by omega), if_neg hst, hm])
  have HF := fun w hG => Lib.hid (Fields_words w hG)
  have HW := fun s w => Lib.hid (tokWord_any s w)
  have HS := fun s w => Lib.hid (tokSign_any s w)
  have HG := Lib.hid hG
  obtain ⟨kd, n, s, st, f⟩ := p
  simp only at h1 c0 c1 c2 c3 c4 HL hm hst
  have hne : st.toList.isEmpty = false := by rw [ByteArray.toList_eq]; cases h : st.data.toList with
    | nil => exact absurd h hst
    | cons _ _ => rfl
  subst h1 hm
  clear hT hst hG hf0 hf5
  go_enter Tryz.func28, Tryz.ntmps28
  go_wp2_with (first
    | (go_at_call 47; refine (HW _ _).out.mono ?_; rintro e wa ⟨rfl, hka⟩)
    | (go_at_call 46; refine (HS _ _).out.mono ?_; rintro e wb ⟨rfl, hkb⟩)
    | (at_builtin; have hkp := ((hk0.then hka).then hkb).alloc (.cells #[.int .i64 1, .string st, .int .i64 0, .int .i64 0, .int .i64 4, .string ⟨#[46]⟩, .int .i64 0, .int .i64 0] 91 (0, 0)); refine list_append_any rtTok (by rfl) _ _ (by rfl) w.heap.size (.slice none 0 0) 0 [] (by rfl) ⟨rfl, .inl ⟨rfl, rfl⟩⟩ _ 2 [.int .i64 1, .string st, .int .i64 0, .int .i64 0, .int .i64 4, .string ⟨#[46]⟩, .int .i64 0, .int .i64 0] (by rfl) (SlC.of_block (cs := #[.int .i64 1, .string st, .int .i64 0, .int .i64 0, .int .i64 4, .string ⟨#[46]⟩, .int .i64 0, .int .i64 0]) (t := 91) (fr := (0, 0)) (heap_alloc_new _ _) (by rfl)) (by simp [Value.oneCell']) (by omega) (by unfold maxLen; omega) hkp.size ?_; intro ao0 cp0 wc hownc hgrowc hatc hnilc; have hkc := hkp.grown hgrowc (fun k h => .inr (by cases h)); clear hgrowc hatc hnilc hkp hka hkb))
  have c4' := hkc.cell c4 (by simp)
  have x4 := (((Keeps.refl [] wc).drew).alloc (.cells fieldCells 9)).cell c4' (by simp)
  have y4 := ((Keeps.refl [] wc).drew).cell c4' (by simp)
  have zf := field_cell wc.drew m HM.out
  have hGd : GlobX wc.drew := HG.out.keep hkc.drew
  have hkd := (hkc).drew.alloc (.cells fieldCells 9)
  have hcd := (Keeps.refl [] wc).drew.alloc (.cells fieldCells 9)
  have hfs : wc.drew.heap.size = wc.heap.size := rfl
  rw [hfs] at zf
  refine wp_region_tree (fun _ => True) [] (.op 0 0 (.op 1 0 (.op 3 0 (.op 4 0 (.op 5 0 (.op 6 0 (.alt 2 (.op 7 2 (.op 8 0 (.op 9 2 (.op 10 2 (.op 11 2 (.op 12 2 (.op 13 0 (.done)))))))) 7 (.op 2 2 (.op 8 0 (.op 9 2 (.op 10 2 (.op 11 2 (.op 12 2 (.op 13 0 (.done))))))))))))))) (by kernel_rfl) (by kernel_rfl) (fun _ d _ _ _ h => by cases d <;> exact h) trivial ?_
  repeat (first
    | (refine wpT_pure (v := ?_) rfl (by rfl) ?_ ?_
       rotate_left 1
       · (intro w; go_simp; try with_reducible rfl)
       try simp only [Act.put, List.setIfInBounds_toArray, List.set_cons_zero, List.set_cons_succ, List.getElem_toArray, List.getElem_cons_succ, List.getElem_cons_zero]))
  refine wpT_alt rfl rfl (by rfl) (by rfl) (fun K hK => ?_) (fun K hK => ?_)
  · skip
    go_simp
    refine (HF _ hGd).out.mono ?_
    rintro e w1 ⟨rfl, hw1⟩
    rw [← hw1] at x4 zf hkd hcd
    clear hw1
    refine hK _ _ trivial ?_
    clear hK K
    try simp only [Act.put, List.setIfInBounds_toArray, List.set_cons_zero, List.set_cons_succ, List.getElem_toArray, List.getElem_cons_succ, List.getElem_cons_zero]
    refine wpT_step rfl (by rfl) (fun K hK => ?_)
    go_simp
    refine hK _ _ trivial ?_
    clear hK K
    try simp only [Act.put, List.setIfInBounds_toArray, List.set_cons_zero, List.set_cons_succ, List.getElem_toArray, List.getElem_cons_succ, List.getElem_cons_zero]
    repeat (first
      | (refine wpT_pure (v := ?_) rfl (by rfl) ?_ ?_
         rotate_left 1
         · (intro w; go_simp; try with_reducible rfl)
         try simp only [Act.put, List.setIfInBounds_toArray, List.set_cons_zero, List.set_cons_succ, List.getElem_toArray, List.getElem_cons_succ, List.getElem_cons_zero]))
    refine wpT_step rfl (by rfl) (fun K hK => ?_)
    go_simp
    refine hK _ _ trivial ?_
    clear hK K
    try simp only [Act.put, List.setIfInBounds_toArray, List.set_cons_zero, List.set_cons_succ, List.getElem_toArray, List.getElem_cons_succ, List.getElem_cons_zero]
    refine wpT_step rfl (by rfl) (fun K hK => ?_)
    go_simp
    refine (HW _ _).out.mono ?_
    rintro e w2 ⟨rfl, hk2⟩
    refine hK _ _ trivial ?_
    clear hK K
    try simp only [Act.put, List.setIfInBounds_toArray, List.set_cons_zero, List.set_cons_succ, List.getElem_toArray, List.getElem_cons_succ, List.getElem_cons_zero]
    refine wpT_step rfl (by rfl) (fun K hK => ?_)
    go_simp
    refine hK _ _ trivial ?_
    clear hK K
    try simp only [Act.put, List.setIfInBounds_toArray, List.set_cons_zero, List.set_cons_succ, List.getElem_toArray, List.getElem_cons_succ, List.getElem_cons_zero]
    refine wpT_step rfl (by rfl) (fun K hK => ?_)
    have hkx := (hkd.then hk2).alloc (.cells #[.int .i64 1, .string (fieldWord (m : Int)), .int .i64 0, .int .i64 0] 91 (0, 0))
    have hcx := (hcd.then hk2).alloc (.cells #[.int .i64 1, .string (fieldWord (m : Int)), .int .i64 0, .int .i64 0] 91 (0, 0))
    refine wp_append_any rtTok _ _ (by rfl) w.heap.size (.slice ao0 2 cp0) 2 _ (by rfl) (own_kept hownc hcx (by simp)) _ 1 [.int .i64 1, .string (fieldWord (m : Int)), .int .i64 0, .int .i64 0] (by rfl) (SlC.of_block (cs := #[.int .i64 1, .string (fieldWord (m : Int)), .int .i64 0, .int .i64 0]) (t := 91) (fr := (0, 0)) (heap_alloc_new _ _) (by rfl)) (by simp [Value.oneCell']) (by omega) (by unfold maxLen; omega) hkx.size ?_
    intro ao1 cp1 w3 hown1 hgrow hat hnil
    have hk3 := hkx.grown hgrow (fun k h => .inr (own_ge hownc h))
    refine hK _ _ trivial ?_
    clear hK K
    try simp only [Act.put, List.setIfInBounds_toArray, List.set_cons_zero, List.set_cons_succ, List.getElem_toArray, List.getElem_cons_succ, List.getElem_cons_zero]
    repeat (first
      | (refine wpT_pure (v := ?_) rfl (by rfl) ?_ ?_
         rotate_left 1
         · (intro w; go_simp; try with_reducible rfl)
         try simp only [Act.put, List.setIfInBounds_toArray, List.set_cons_zero, List.set_cons_succ, List.getElem_toArray, List.getElem_cons_succ, List.getElem_cons_zero]))
    refine wpT_done ?_
    have HO := Lib.hid hown1
    have HK := Lib.hid hk3
    clear hown1 hownc hgrow hat hnil hk3 hkd hk2 hkx hcx hcd
    go_wp2_with fail
    go_returns
    exact ⟨⟨_, _, _, rfl, by rw [HL.out]; rfl, by rw [HL.out]; exact HO.out⟩, HK.out⟩
  · skip
    go_simp
    refine hK _ _ trivial ?_
    clear hK K
    try simp only [Act.put, List.setIfInBounds_toArray, List.set_cons_zero, List.set_cons_succ, List.getElem_toArray, List.getElem_cons_succ, List.getElem_cons_zero]
    refine wpT_step rfl (by rfl) (fun K hK => ?_)
    go_simp
    refine (HF _ hGd).out.mono ?_
    rintro e w1 ⟨rfl, hw1⟩
    rw [← hw1] at x4 zf hkd hcd
    clear hw1
    refine hK _ _ trivial ?_
    clear hK K
    try simp only [Act.put, List.setIfInBounds_toArray, List.set_cons_zero, List.set_cons_succ, List.getElem_toArray, List.getElem_cons_succ, List.getElem_cons_zero]
    repeat (first
      | (refine wpT_pure (v := ?_) rfl (by rfl) ?_ ?_
         rotate_left 1
         · (intro w; go_simp; try with_reducible rfl)
         try simp only [Act.put, List.setIfInBounds_toArray, List.set_cons_zero, List.set_cons_succ, List.getElem_toArray, List.getElem_cons_succ, List.getElem_cons_zero]))
    refine wpT_step rfl (by rfl) (fun K hK => ?_)
    go_simp
    refine hK _ _ trivial ?_
    clear hK K
    try simp only [Act.put, List.setIfInBounds_toArray, List.set_cons_zero, List.set_cons_succ, List.getElem_toArray, List.getElem_cons_succ, List.getElem_cons_zero]
    refine wpT_step rfl (by rfl) (fun K hK => ?_)
    go_simp
    refine (HW _ _).out.mono ?_
    rintro e w2 ⟨rfl, hk2⟩
    refine hK _ _ trivial ?_
    clear hK K
    try simp only [Act.put, List.setIfInBounds_toArray, List.set_cons_zero, List.set_cons_succ, List.getElem_toArray, List.getElem_cons_succ, List.getElem_cons_zero]
    refine wpT_step rfl (by rfl) (fun K hK => ?_)
    go_simp
    refine hK _ _ trivial ?_
    clear hK K
    try simp only [Act.put, List.setIfInBounds_toArray, List.set_cons_zero, List.set_cons_succ, List.getElem_toArray, List.getElem_cons_succ, List.getElem_cons_zero]
    refine wpT_step rfl (by rfl) (fun K hK => ?_)
    have hkx := (hkd.then hk2).alloc (.cells #[.int .i64 1, .string (fieldWord (m : Int)), .int .i64 0, .int .i64 0] 91 (0, 0))
    have hcx := (hcd.then hk2).alloc (.cells #[.int .i64 1, .string (fieldWord (m : Int)), .int .i64 0, .int .i64 0] 91 (0, 0))
    refine wp_append_any rtTok _ _ (by rfl) w.heap.size (.slice ao0 2 cp0) 2 _ (by rfl) (own_kept hownc hcx (by simp)) _ 1 [.int .i64 1, .string (fieldWord (m : Int)), .int .i64 0, .int .i64 0] (by rfl) (SlC.of_block (cs := #[.int .i64 1, .string (fieldWord (m : Int)), .int .i64 0, .int .i64 0]) (t := 91) (fr := (0, 0)) (heap_alloc_new _ _) (by rfl)) (by simp [Value.oneCell']) (by omega) (by unfold maxLen; omega) hkx.size ?_
    intro ao1 cp1 w3 hown1 hgrow hat hnil
    have hk3 := hkx.grown hgrow (fun k h => .inr (own_ge hownc h))
    refine hK _ _ trivial ?_
    clear hK K
    try simp only [Act.put, List.setIfInBounds_toArray, List.set_cons_zero, List.set_cons_succ, List.getElem_toArray, List.getElem_cons_succ, List.getElem_cons_zero]
    repeat (first
      | (refine wpT_pure (v := ?_) rfl (by rfl) ?_ ?_
         rotate_left 1
         · (intro w; go_simp; try with_reducible rfl)
         try simp only [Act.put, List.setIfInBounds_toArray, List.set_cons_zero, List.set_cons_succ, List.getElem_toArray, List.getElem_cons_succ, List.getElem_cons_zero]))
    refine wpT_done ?_
    have HO := Lib.hid hown1
    have HK := Lib.hid hk3
    clear hown1 hownc hgrow hat hnil hk3 hkd hk2 hkx hcx hcd
    go_wp2_with fail
    go_returns
    exact ⟨⟨_, _, _, rfl, by rw [HL.out]; rfl, by rw [HL.out]; exact HO.out⟩, HK.out⟩

end Go.Proofs.YtefcmijobbgpbaaGreatDoor
