/- The walk of NetTruth. Conditions: none but that the argument is a []Act. -/
import Derived.Test.YtgkdlpbnhjfkdaaTruC
import Derived.Test.YtgkdlpbnhjfkdaaRefK
import Derived.Test.YtgkdlpbnhjfkdaaRegion3
namespace Go.Proofs.Ytgkdlpbnhjfkdaa
open Go.RowKit Go.WideElems Go.MapKept Go.ChangeMaps

theorem tru_start {W w : World} {a t : Nat} {to : List (List Pk)} {c : List Int} (h : NetAt W w a t to c) :
    Tru W ((w.alloc (.map #[] 0)).alloc (.map #[] 0)) a t to c w.heap.size (w.heap.size + 1) (fun _ => 0) (fun _ => 0) [] := by
  obtain ⟨v, h1, h2, h3⟩ := h
  have k1 : Keeps [] w (w.alloc (.map #[] 0)) := (Keeps.refl _ _).alloc _
  have k2 : Keeps [] w ((w.alloc (.map #[] 0)).alloc (.map #[] 0)) := k1.alloc _
  have hs : (w.alloc (.map #[] 0)).heap.size = w.heap.size + 1 := by simp
  have m1 : CMap (w.alloc (.map #[] 0)) w.heap.size (fun _ => 0) := CMap.empty
  have m2 : CMap ((w.alloc (.map #[] 0)).alloc (.map #[] 0)) (w.heap.size + 1) (fun _ => 0) := by rw [← hs]; exact CMap.empty
  refine ⟨v, h1.keep k2 (by simp), h2, h3.then k2, m1.keep (S := []) ((Keeps.refl _ _).alloc _) List.not_mem_nil, m2, fun hm => ?_, fun hm => ?_, by omega, h3.size, by have := h3.size; omega, by simp⟩
  · have := h1.blocks_lt _ hm; omega
  · have := h1.blocks_lt _ hm; omega

def sumTo (to : List (List Pk)) : Nat → Int
  | 0 => 0
  | j + 1 => sumTo to j + ((to.getD j []).length : Int)

theorem TInv.sums {K to c S T cp} (I : TInv K to c S T cp) (hK : K ≤ 201) : sumTo to 3 = (tot to : Int) ∧ (tot to : Int) ≤ 402 ∧ ∀ j, j ≤ 3 → 0 ≤ sumTo to j ∧ sumTo to j ≤ 402 := by
  have h := tru_tot I
  have h1 := I.bal
  have h2 := I.c0b
  have h3 := I.c1b
  have h4 := I.c3b
  have h5 := I.c2
  have h6 := I.cpb
  have e : sumTo to 3 = (tot to : Int) := by rw [h]; rfl
  refine ⟨e, by omega, fun j hj => ?_⟩
  have e3 : sumTo to 3 = 0 + ((to.getD 0 []).length : Int) + ((to.getD 1 []).length : Int) + ((to.getD 2 []).length : Int) := rfl
  have e2 : sumTo to 2 = 0 + ((to.getD 0 []).length : Int) + ((to.getD 1 []).length : Int) := rfl
  have e1 : sumTo to 1 = 0 + ((to.getD 0 []).length : Int) := rfl
  have e0 : sumTo to 0 = 0 := rfl
  have : j = 0 ∨ j = 1 ∨ j = 2 ∨ j = 3 := by omega
  rcases this with rfl | rfl | rfl | rfl <;> omega

theorem TInv.last {K to S T cp} {z0 z1 z2 z3 : Int} (I : TInv K to [z0, z1, z2, z3] S T cp) (hK : K ≤ 201) : z2 = cp ∧ z0 + z2 = sumTo to 3 + z1 + z3 ∧ 0 ≤ z0 ∧ z0 ≤ 201 ∧ 0 ≤ z2 ∧ z2 ≤ 201 ∧ 0 ≤ z1 ∧ 0 ≤ z3 ∧ z1 ≤ 402 ∧ z3 ≤ 402 := by
  obtain ⟨h, h', hh⟩ := I.sums hK
  have h1 : z0 + z2 = (tot to : Int) + z1 + z3 := I.bal
  have h2 : 0 ≤ z0 ∧ z0 ≤ K := I.c0b
  have h3 : 0 ≤ z1 := I.c1b
  have h4 : 0 ≤ z3 := I.c3b
  have h5 : z2 = cp := I.c2
  have h6 := I.cpb
  omega

theorem tru_loseM {K to c S T cp} (I : TInv K to c S T cp) (hK : K ≤ 200) {y : Nat} (hy : y < 3) (i : Int) : TInv (K + 1) (pullM to c y i 1).1 (pullM to c y i 1).2 S T cp := by
  rcases tru_get I hy i with ⟨e0, hp, _⟩ | ⟨j, p, hij, hpj, hg⟩
  · rw [hp 1]
    exact I.more
  · rw [tru_pullM I hy hij hg 1]
    exact (I.drop hK hy hpj).1

theorem tru_copyAny {K to c S T cp} (I : TInv K to c S T cp) (hK : K ≤ 200) {y : Nat} (hy : y < 3) (i : Int) :
    ((copyM to c y i).2.2 = 0 ∧ TInv (K + 1) (copyM to c y i).1 (copyM to c y i).2.1 S T (cp + 1)) ∨
    (((copyM to c y i).2.2 == 0) = false ∧ TInv (K + 1) (copyM to c y i).1 (copyM to c y i).2.1 S T cp) := by
  rcases tru_get I hy i with ⟨e0, _, hp⟩ | ⟨j, p, hij, hpj, hg⟩
  · right
    rw [hp]
    exact ⟨rfl, I.more⟩
  · rcases tru_copyM I hK hy hpj hg with h | ⟨h1, h2⟩
    · exact .inl h
    · right
      rw [h1]
      exact ⟨rfl, h2⟩

set_option maxRecDepth 100000 in
set_option maxHeartbeats 4000000 in
theorem netTruth_any (ao : Option Addr) (n cp b o : Nat) (L : List ActV) (W : World) (hl : L.length = n) (hm : n ≤ maxLen)
    (hL : ∀ (k : Nat) (q : ActV), L[k]? = some q → ao = some ⟨b, o, none⟩ ∧ (∀ j, j < 5 → W.cell? ⟨b, o + k * 5 + j, none⟩ = q.cells[j]?) ∧ q.ok) :
    Calls Try.prog 6 #[.slice ao n cp] W fun e w' => e = .returned (.bool true) ∧ Keeps [] W w' := by
  have hm' : n ≤ 9223372036854775807 := by simp only [maxLen] at hm; omega
  have HL := Lib.hid hL
  clear hL hm
  go_enter Try.func6, Try.ntmps6
  go_wp2_with fail
  refine (new_at 3 W (by omega) (by omega)).mono ?_
  rintro e w1 ⟨rfl, hn1⟩
  go_wp2_with fail
  refine (works_any w1).mono ?_
  rintro e w2 ⟨rfl, hk2⟩
  have hT0 := tru_start (hn1.keep hk2)
  have hI0 := TInv.start
  clear hn1 hk2
  have hmk : ∀ w, (Instr.makeMap 52 none).run Try.prog w = .ok (.map (some w.heap.size)) (w.alloc (.map #[] 0)) := fun _ => rfl
  have hsz : (w2.alloc (.map #[] 0)).heap.size = w2.heap.size + 1 := by simp
  go_wp2_with fail
  generalize W.heap.size + 1 = a at *
  generalize W.heap.size = t at *
  generalize hM : w2.heap.size = M at *
  generalize hw3 : (w2.alloc (.map #[] 0)).alloc (.map #[] 0) = w3 at *
  generalize hto : (List.replicate 3 [] : List (List Pk)) = to0 at *
  have hto' : ([[], [], []] : List (List Pk)) = to0 := hto
  rw [hto'] at hI0
  generalize ([0, 0, 0, 0] : List Int) = c0 at *
  generalize (fun _ => 0 : Pk3 → Int) = S0 at *
  clear hw3 hM hto hto' hsz
  clear hmk w1
  have hI := Lib.hid hI0
  clear hI0
  go_loopw [7, 8] (fun cpv i wr => ∃ (k : Nat) (to : List (List Pk)) (c : List Int) (S T : Pk3 → Int) (cp' : Int), k ≤ n ∧ k ≤ 200 ∧ i = .int .i64 k ∧ cpv = .int .i64 cp' ∧ TInv k to c S T cp' ∧ Tru W wr a t to c M (M + 1) S T []) (fun _ i _ => 200 - (intOf i).toNat)
  case atStart => exact ⟨0, to0, c0, S0, S0, 0, Nat.zero_le _, Nat.zero_le _, rfl, rfl, hI.out, hT0⟩
  case round =>
    obtain ⟨k, to, c, S, T, cp', hk, hk3, rfl, rfl, hI, hT⟩ := hrel
    clear hT0 w3
    by_cases hkn : k < n
    · by_cases hk300 : k < 200
      · have d1 : decide ((k : Int) < (n : Int)) = true := by simp; omega
        have d2 : decide ((k : Int) < 200) = true := by simp; omega
        have b0 : (0 : Int) ≤ (k : Int) := by omega
        have b1 : (k : Int) < (n : Int) := by omega
        have hq0 : L[k]? = some L[k] := List.getElem?_eq_getElem (by omega)
        generalize L[k] = q at *
        obtain ⟨rfl, hcell, hok⟩ := HL.out k q hq0
        have hold := hT.old
        have p0 : wr.cell? ⟨b, o + k * 5, none⟩ = some (.int .i64 q.k) := hold.cell (hcell 0 (by omega)) (by simp)
        have p1 : wr.cell? ⟨b, o + k * 5 + 1, none⟩ = some (.int .i64 q.fr) := hold.cell (hcell 1 (by omega)) (by simp)
        have p2 : wr.cell? ⟨b, o + k * 5 + 2, none⟩ = some (.int .i64 q.x) := hold.cell (hcell 2 (by omega)) (by simp)
        have p3 : wr.cell? ⟨b, o + k * 5 + 3, none⟩ = some (.int .i64 q.i) := hold.cell (hcell 3 (by omega)) (by simp)
        have p4 : wr.cell? ⟨b, o + k * 5 + 4, none⟩ = some (.string q.b) := hold.cell (hcell 4 (by omega)) (by simp)
        clear hcell hq0 hold
        have HI := Lib.hid hI
        have HT := Lib.hid hT
        clear hI hT
        go_wp2_with fail
        have hB := HT.out.box (.cells #[.int .i64 q.k, .int .i64 q.fr, .int .i64 q.x, .int .i64 q.i, .string q.b] 40)
        clear HT p0 p1 p2 p3 p4 d1 d2 b0 b1
        obtain ⟨⟨k1, k2⟩, ⟨f1, f2⟩, ⟨x1, x2⟩, ⟨i1, i2⟩, hqb⟩ := hok
        obtain ⟨qk, qf, qx, qi, qb⟩ := q
        simp only at hB k1 k2 f1 f2 x1 x2 i1 i2 hqb ⊢
        generalize hw : wr.alloc (.cells #[.int .i64 qk, .int .i64 qf, .int .i64 qx, .int .i64 qi, .string qb] 40) = w1 at *
        generalize wr.heap.size = B at *
        clear hw wr
        replace hB := hB.keep (Keeps.refl _ _).drew
        have hH := hB.held
        have B0 := cell_of_row _ B 0 _ _ _ hH
        have B1 := cell_of_row _ B 1 _ _ _ hH
        have B2 := cell_of_row _ B 2 _ _ _ hH
        have B3 := cell_of_row _ B 3 _ _ _ hH
        have B4 := cell_of_row _ B 4 _ _ _ hH
        simp only [List.getElem?_toArray, List.getElem?_cons_succ, List.getElem?_cons_zero] at B0 B1 B2 B3 B4
        have HB := Lib.hid hB
        have hft := Int.emod_nonneg qf (by omega : (3:Int) ≠ 0)
        have hft2 := Int.emod_lt_of_pos qf (by omega : (0:Int) < 3)
        have hxt := Int.emod_nonneg qx (by omega : (3:Int) ≠ 0)
        have hxt2 := Int.emod_lt_of_pos qx (by omega : (0:Int) < 3)
        have hkt := Int.emod_nonneg qk (by omega : (5:Int) ≠ 0)
        have hkt2 := Int.emod_lt_of_pos qk (by omega : (0:Int) < 5)
        obtain ⟨f, hf⟩ : ∃ f : Nat, qf % 3 = f := ⟨(qf % 3).toNat, by omega⟩
        obtain ⟨y, hy⟩ : ∃ y : Nat, qx % 3 = y := ⟨(qx % 3).toNat, by omega⟩
        have ha1 : ∀ w, Calls Try.prog 10 #[.int .i64 qf, .int .i64 3] w fun e w' => e = .returned (.int .i64 (f : Int)) ∧ w = w' := fun w => hf ▸ among_any qf 3 w (by omega) (by omega) f1 f2
        have ha2 : ∀ w, Calls Try.prog 10 #[.int .i64 qx, .int .i64 3] w fun e w' => e = .returned (.int .i64 (y : Int)) ∧ w = w' := fun w => hy ▸ among_any qx 3 w (by omega) (by omega) x1 x2
        rw [hf] at hft hft2
        rw [hy] at hxt hxt2
        clear hB hH hf hy f1 f2 x1 x2 hft hxt
        refine wp_region_chain (fun w' => w'.cell? ⟨B, 1, none⟩ = some (.int .i64 qf) ∧ w'.cell? ⟨B, 2, none⟩ = some (.int .i64 qx)) [5] [(0, 0), (1, 1), (3, 0), (4, 1), (2, 2), (5, 3), (6, 0), (7, 0)] (by kernel_rfl) (by kernel_rfl) (fun _ d _ _ _ h => by cases d <;> exact h) (by go_simp) ?_
        repeat (first
          | (refine wpC_pure (v := ?_) rfl (by rfl) ?_ ?_
             rotate_left 1
             · (intro w; go_simp; try with_reducible rfl)
             try simp only [Act.put, List.setIfInBounds_toArray, List.set_cons_zero, List.set_cons_succ, List.getElem_toArray, List.getElem_cons_succ, List.getElem_cons_zero])
          | (refine wpC_held (v := ?_) rfl (by rfl) ?_ ?_
             rotate_left 1
             · (rintro w ⟨hs1, hs2⟩; go_simp; try with_reducible rfl)
             try simp only [Act.put, List.setIfInBounds_toArray, List.set_cons_zero, List.set_cons_succ, List.getElem_toArray, List.getElem_cons_succ, List.getElem_cons_zero]))
        refine wpC_step rfl (by rfl) (fun K hK => ?_)
        go_simp
        refine (ha1 _).mono ?_
        rintro e w3 ⟨rfl, rfl⟩
        refine hK _ _ ⟨B1, B2⟩ ?_
        clear hK K
        refine wpC_last rfl (by rfl) (fun K hK => ?_)
        go_simp
        refine (ha2 _).mono ?_
        rintro e w3 ⟨rfl, rfl⟩
        refine hK _ _ ?_
        clear hK K
        repeat (first
          | (refine wpC_pure (v := ?_) rfl (by rfl) ?_ ?_
             rotate_left 1
             · (intro w; go_simp; try with_reducible rfl)
             try simp only [Act.put, List.setIfInBounds_toArray, List.set_cons_zero, List.set_cons_succ, List.getElem_toArray, List.getElem_cons_succ, List.getElem_cons_zero])
          | (refine wpC_held (v := ?_) rfl (by rfl) ?_ ?_
             rotate_left 1
             · (rintro w ⟨hs1, hs2⟩; go_simp; try with_reducible rfl)
             try simp only [Act.put, List.setIfInBounds_toArray, List.set_cons_zero, List.set_cons_succ, List.getElem_toArray, List.getElem_cons_succ, List.getElem_cons_zero]))
        refine wpC_nil ?_
        generalize w1.drew = w2 at *
        clear w1
        go_wp2_with fail
        refine (among_any qk 5 _ (by omega) (by omega) k1 k2).mono ?_
        rintro e w3 ⟨rfl, rfl⟩
        have hkk : qk % 5 = 0 ∨ qk % 5 = 1 ∨ qk % 5 = 2 ∨ qk % 5 = 3 ∨ qk % 5 = 4 := by omega
        have hb1 : qb.size ≤ maxLen := hqb
        have hk200 : k ≤ 200 := hk3
        rcases hkk with hkk | hkk | hkk | hkk | hkk
        · rw [hkk]
          clear hkk hkt hkt2 k1 k2
          have Hs := Lib.hid (tru_send (f : Int) (y : Int) qb HB.out)
          go_wp2_with fail
          refine Hs.out.mono ?_
          rintro e w4 ⟨rfl, hT⟩
          clear Hs HB
          rcases tru_sendM HI.out hk200 (f := f) (y := y) (by omega) (by omega) hb1 with ⟨e0, hI⟩ | ⟨e0, hI⟩
          · rw [e0]
            have hI := Lib.hid hI
            have hsb := HI.out.s0 ((f : Int), (y : Int), qb)
            have hb2 := hb1
            clear HI
            generalize (sendM to c f y qb).1 = to' at *
            generalize (sendM to c f y qb).2.1 = c' at *
            clear e0
            replace hT := hT.keep (Keeps.refl _ _).drew
            have hkey : okKey ((f : Int), (y : Int), qb) := ⟨by constructor <;> simp only <;> omega, by constructor <;> simp only <;> omega, hb2⟩
            have hlk := cmap_lookup hT.map1 hkey
            obtain ⟨st, es1, c1, hme, hE⟩ := cmap_entry hT.map1 hkey
            have hT2 := hT.set1 hE.1
            have hlk2 := cmap_lookup hT2.map1 hkey
            obtain ⟨es2, hst, hF2⟩ := cmap_store (S ((f : Int), (y : Int), qb) + 1) (heap_setBlock hT.map1.lt) hE
            have hT3 := hT2.set1 hF2
            have hgo : goInt (st : Int) = .int .i64 st := rfl
            rw [hgo] at hme hst
            simp only [keyV] at hlk hme hlk2
            have hwrap : IntKind.i64.wrap (S ((f : Int), (y : Int), qb) + 1) = S ((f : Int), (y : Int), qb) + 1 := IntWalk.i64_in _ (by omega)
            have B4 := cell_of_row _ B 4 _ _ _ hT.held
            have B4' := cell_of_row _ B 4 _ _ _ hT2.held
            simp only [List.getElem?_toArray, List.getElem?_cons_succ, List.getElem?_cons_zero] at B4 B4'
            clear hE hF2 hgo hT hT2 hkey
            generalize S ((f : Int), (y : Int), qb) = sk at *
            generalize hw5 : setBlock _ _ (Obj.map es1 c1) = w5 at *
            generalize hw6 : setBlock _ _ (Obj.map es2 c1) = w6 at *
            clear hw5 hw6
            go_wp2_with fail
            refine wp_region_chain (fun w' => w'.cell? ⟨B, 4, none⟩ = some (.string qb) ∧ (Instr.lookup 52 (.map (some M)) (.agg #[.int .i64 (f : Int), .int .i64 (y : Int), .string qb]) false).run Try.prog w' = .ok (.int .i64 sk) w') [10] [(0, 0), (1, 0), (2, 0), (3, 0), (4, 1), (5, 0), (6, 1), (7, 0), (8, 2), (9, 0), (10, 3)] (by kernel_rfl) (by kernel_rfl) (fun _ d _ _ _ h => by cases d <;> exact h) ⟨B4, hlk⟩ ?_
            repeat (first
              | (refine wpC_pure (v := ?_) rfl (by rfl) ?_ ?_
                 rotate_left 1
                 · (intro w; go_simp; try with_reducible rfl)
                 try simp only [Act.put, List.setIfInBounds_toArray, List.set_cons_zero, List.set_cons_succ, List.getElem_toArray, List.getElem_cons_succ, List.getElem_cons_zero])
              | (refine wpC_held (v := ?_) rfl (by rfl) ?_ ?_
                 rotate_left 1
                 · (rintro w ⟨hs1, hs2⟩; go_simp; try with_reducible rfl)
                 try simp only [Act.put, List.setIfInBounds_toArray, List.set_cons_zero, List.set_cons_succ, List.getElem_toArray, List.getElem_cons_succ, List.getElem_cons_zero]))
            refine wpC_step rfl (by rfl) (fun K hK => ?_)
            go_simp
            refine hK _ _ ⟨B4', hlk2⟩ ?_
            clear hK K hme hlk hlk2 B4 B4'
            repeat (first
              | (refine wpC_pure (v := ?_) rfl (by rfl) ?_ ?_
                 rotate_left 1
                 · (intro w; go_simp; try with_reducible rfl)
                 try simp only [Act.put, List.setIfInBounds_toArray, List.set_cons_zero, List.set_cons_succ, List.getElem_toArray, List.getElem_cons_succ, List.getElem_cons_zero])
              | (refine wpC_held (v := ?_) rfl (by rfl) ?_ ?_
                 rotate_left 1
                 · (rintro w ⟨hs1, hs2⟩; go_simp; try with_reducible rfl)
                 try simp only [Act.put, List.setIfInBounds_toArray, List.set_cons_zero, List.set_cons_succ, List.getElem_toArray, List.getElem_cons_succ, List.getElem_cons_zero]))
            refine wpC_last rfl (by rfl) (fun K hK => ?_)
            go_simp
            refine hK _ _ ?_
            clear hK K hst
            refine wpC_nil ?_

            replace hT := hT3.unbox
            clear hT3
            go_wp2_with fail
            obtain ⟨hsum, _, hsums⟩ := hI.out.sums (by omega)
            obtain ⟨z0, z1, z2, z3, rfl⟩ := four_cells c' hI.out.hc
            have g1 := (hI.out.last (by omega)).1.symm
            subst g1
            clear hsum
            go_loopw [15, 144] (fun sm j wr => ∃ j' : Nat, j' ≤ 3 ∧ j = .int .i64 j' ∧ sm = .int .i64 (sumTo to' j') ∧ Tru W wr a t to' [z0, z1, cp', z3] M (M + 1) (upd S ((f : Int), (y : Int), qb) (sk + 1)) (T) []) (fun _ j _ => 3 - (intOf j).toNat)
            case atStart => exact ⟨0, by omega, rfl, rfl, hT⟩
            case round =>
              obtain ⟨j, hj, rfl, rfl, hTj⟩ := hrel
              clear hT
              by_cases hj3 : j < 3
              · have d3 : decide ((j : Int) < 3) = true := by simp; omega
                have hwm := tru_wayM hI.out hj3
                have Hw := tru_way (j : Int) hTj
                rw [hwm] at Hw
                have Hw := Lib.hid Hw
                have hs1 := hsums j hj
                have hs2 := hsums (j + 1) (by omega)
                have hs3 : sumTo to' (j + 1) = sumTo to' j + ((to'.getD j []).length : Int) := rfl
                have wr1 : IntKind.i64.wrap (sumTo to' j + ((to'.getD j []).length : Int)) = sumTo to' j + ((to'.getD j []).length : Int) := IntWalk.i64_in _ (by omega)
                have wr2 : IntKind.i64.wrap ((j : Int) + 1) = (j : Int) + 1 := IntWalk.i64_in _ (by omega)
                clear hwm hTj hsums hs1 hs2 hs3
                generalize hln : ((to'.getD j []).length : Int) = ln at *
                go_wp2_with fail
                refine Hw.out.mono ?_
                rintro e w5 ⟨rfl, hT5⟩
                clear Hw
                go_wp2_with fail
                exact ⟨⟨j + 1, by omega, by simp, by rw [← hln]; rfl, hT5⟩, by simp only [intOf]; omega⟩
              · have hj3' : j = 3 := by omega
                subst hj3'
                have d3 : decide (((3 : Nat) : Int) < 3) = false := by decide
                obtain ⟨_, g2, g3, g4, g5, g6, g7, g8, g9, g10⟩ := hI.out.last (by omega)
                have Hw := Lib.hid (tru_counts hTj)
                clear hTj
                have s3 := hsums 3 (by omega)
                clear hsums
                generalize sumTo to' 3 = sm at *
                have wr1 : IntKind.i64.wrap (z0 + cp') = z0 + cp' := IntWalk.i64_in _ (by omega)
                have wr2 : IntKind.i64.wrap (sm + z1) = sm + z1 := IntWalk.i64_in _ (by omega)
                have wr3 : IntKind.i64.wrap (sm + z1 + z3) = sm + z1 + z3 := IntWalk.i64_in _ (by omega)
                have wr4 : IntKind.i64.wrap ((k : Int) + 1) = (k : Int) + 1 := IntWalk.i64_in _ (by omega)
                have ne1 : (z0 + cp' == sm + z1 + z3) = true := by rw [g2]; simp
                have ne2 : (z0 + cp' != sm + z1 + z3) = false := by rw [g2]; simp
                clear g2 g3 g4 g5 g6 g7 g8 g9 g10 s3
                go_wp2_with fail
                refine Hw.out.mono ?_
                rintro e w5 ⟨rfl, hT5⟩
                clear Hw
                have hT6 := hT5.keep ((Keeps.refl [] w5).alloc (.cells #[.int .i64 z0, .int .i64 z1, .int .i64 (cp'), .int .i64 z3] 41))
                clear hT5
                go_wp2_with fail
                exact ⟨⟨k + 1, to', [z0, z1, cp', z3], upd S ((f : Int), (y : Int), qb) (sk + 1), T, cp', by omega, by omega, by simp, rfl, hI.out, hT6⟩, by simp only [intOf]; omega⟩

          · rw [e0]
            have hI := Lib.hid hI
            clear HI
            generalize (sendM to c f y qb).1 = to' at *
            generalize (sendM to c f y qb).2.1 = c' at *
            clear e0
            replace hT := hT.unbox
            go_wp2_with fail
            obtain ⟨hsum, _, hsums⟩ := hI.out.sums (by omega)
            obtain ⟨z0, z1, z2, z3, rfl⟩ := four_cells c' hI.out.hc
            have g1 := (hI.out.last (by omega)).1.symm
            subst g1
            clear hsum
            go_loopw [15, 144] (fun sm j wr => ∃ j' : Nat, j' ≤ 3 ∧ j = .int .i64 j' ∧ sm = .int .i64 (sumTo to' j') ∧ Tru W wr a t to' [z0, z1, cp', z3] M (M + 1) (S) (T) []) (fun _ j _ => 3 - (intOf j).toNat)
            case atStart => exact ⟨0, by omega, rfl, rfl, hT⟩
            case round =>
              obtain ⟨j, hj, rfl, rfl, hTj⟩ := hrel
              clear hT
              by_cases hj3 : j < 3
              · have d3 : decide ((j : Int) < 3) = true := by simp; omega
                have hwm := tru_wayM hI.out hj3
                have Hw := tru_way (j : Int) hTj
                rw [hwm] at Hw
                have Hw := Lib.hid Hw
                have hs1 := hsums j hj
                have hs2 := hsums (j + 1) (by omega)
                have hs3 : sumTo to' (j + 1) = sumTo to' j + ((to'.getD j []).length : Int) := rfl
                have wr1 : IntKind.i64.wrap (sumTo to' j + ((to'.getD j []).length : Int)) = sumTo to' j + ((to'.getD j []).length : Int) := IntWalk.i64_in _ (by omega)
                have wr2 : IntKind.i64.wrap ((j : Int) + 1) = (j : Int) + 1 := IntWalk.i64_in _ (by omega)
                clear hwm hTj hsums hs1 hs2 hs3
                generalize hln : ((to'.getD j []).length : Int) = ln at *
                go_wp2_with fail
                refine Hw.out.mono ?_
                rintro e w5 ⟨rfl, hT5⟩
                clear Hw
                go_wp2_with fail
                exact ⟨⟨j + 1, by omega, by simp, by rw [← hln]; rfl, hT5⟩, by simp only [intOf]; omega⟩
              · have hj3' : j = 3 := by omega
                subst hj3'
                have d3 : decide (((3 : Nat) : Int) < 3) = false := by decide
                obtain ⟨_, g2, g3, g4, g5, g6, g7, g8, g9, g10⟩ := hI.out.last (by omega)
                have Hw := Lib.hid (tru_counts hTj)
                clear hTj
                have s3 := hsums 3 (by omega)
                clear hsums
                generalize sumTo to' 3 = sm at *
                have wr1 : IntKind.i64.wrap (z0 + cp') = z0 + cp' := IntWalk.i64_in _ (by omega)
                have wr2 : IntKind.i64.wrap (sm + z1) = sm + z1 := IntWalk.i64_in _ (by omega)
                have wr3 : IntKind.i64.wrap (sm + z1 + z3) = sm + z1 + z3 := IntWalk.i64_in _ (by omega)
                have wr4 : IntKind.i64.wrap ((k : Int) + 1) = (k : Int) + 1 := IntWalk.i64_in _ (by omega)
                have ne1 : (z0 + cp' == sm + z1 + z3) = true := by rw [g2]; simp
                have ne2 : (z0 + cp' != sm + z1 + z3) = false := by rw [g2]; simp
                clear g2 g3 g4 g5 g6 g7 g8 g9 g10 s3
                go_wp2_with fail
                refine Hw.out.mono ?_
                rintro e w5 ⟨rfl, hT5⟩
                clear Hw
                have hT6 := hT5.keep ((Keeps.refl [] w5).alloc (.cells #[.int .i64 z0, .int .i64 z1, .int .i64 (cp'), .int .i64 z3] 41))
                clear hT5
                go_wp2_with fail
                exact ⟨⟨k + 1, to', [z0, z1, cp', z3], S, T, cp', by omega, by omega, by simp, rfl, hI.out, hT6⟩, by simp only [intOf]; omega⟩

        · rw [hkk]
          clear hkk hkt hkt2 k1 k2
          rcases tru_get HI.out (y := y) (by omega) qi with ⟨e0, hp, _⟩ | ⟨j, p, hij, hpj, hg⟩
          · have Hs := tru_take (y : Int) qi HB.out
            rw [hp 3, e0] at Hs
            have Hs := Lib.hid Hs
            have hI := Lib.hid HI.out.more
            clear HI hp HB e0
            generalize (getM to y qi).1.1 = g1 at *
            generalize (getM to y qi).1.2 = g2 at *
            obtain ⟨to', rfl⟩ : ∃ to', to' = to := ⟨_, rfl⟩
            obtain ⟨c', rfl⟩ : ∃ c', c' = c := ⟨_, rfl⟩
            go_wp2_with fail
            refine Hs.out.mono ?_
            rintro e w4 ⟨rfl, hT⟩
            clear Hs
            replace hT := hT.unbox
            go_wp2_with fail
            obtain ⟨hsum, _, hsums⟩ := hI.out.sums (by omega)
            obtain ⟨z0, z1, z2, z3, rfl⟩ := four_cells c' hI.out.hc
            have g1 := (hI.out.last (by omega)).1.symm
            subst g1
            clear hsum
            go_loopw [15, 144] (fun sm j wr => ∃ j' : Nat, j' ≤ 3 ∧ j = .int .i64 j' ∧ sm = .int .i64 (sumTo to' j') ∧ Tru W wr a t to' [z0, z1, cp', z3] M (M + 1) (S) (T) []) (fun _ j _ => 3 - (intOf j).toNat)
            case atStart => exact ⟨0, by omega, rfl, rfl, hT⟩
            case round =>
              obtain ⟨j, hj, rfl, rfl, hTj⟩ := hrel
              clear hT
              by_cases hj3 : j < 3
              · have d3 : decide ((j : Int) < 3) = true := by simp; omega
                have hwm := tru_wayM hI.out hj3
                have Hw := tru_way (j : Int) hTj
                rw [hwm] at Hw
                have Hw := Lib.hid Hw
                have hs1 := hsums j hj
                have hs2 := hsums (j + 1) (by omega)
                have hs3 : sumTo to' (j + 1) = sumTo to' j + ((to'.getD j []).length : Int) := rfl
                have wr1 : IntKind.i64.wrap (sumTo to' j + ((to'.getD j []).length : Int)) = sumTo to' j + ((to'.getD j []).length : Int) := IntWalk.i64_in _ (by omega)
                have wr2 : IntKind.i64.wrap ((j : Int) + 1) = (j : Int) + 1 := IntWalk.i64_in _ (by omega)
                clear hwm hTj hsums hs1 hs2 hs3
                generalize hln : ((to'.getD j []).length : Int) = ln at *
                go_wp2_with fail
                refine Hw.out.mono ?_
                rintro e w5 ⟨rfl, hT5⟩
                clear Hw
                go_wp2_with fail
                exact ⟨⟨j + 1, by omega, by simp, by rw [← hln]; rfl, hT5⟩, by simp only [intOf]; omega⟩
              · have hj3' : j = 3 := by omega
                subst hj3'
                have d3 : decide (((3 : Nat) : Int) < 3) = false := by decide
                obtain ⟨_, g2, g3, g4, g5, g6, g7, g8, g9, g10⟩ := hI.out.last (by omega)
                have Hw := Lib.hid (tru_counts hTj)
                clear hTj
                have s3 := hsums 3 (by omega)
                clear hsums
                generalize sumTo to' 3 = sm at *
                have wr1 : IntKind.i64.wrap (z0 + cp') = z0 + cp' := IntWalk.i64_in _ (by omega)
                have wr2 : IntKind.i64.wrap (sm + z1) = sm + z1 := IntWalk.i64_in _ (by omega)
                have wr3 : IntKind.i64.wrap (sm + z1 + z3) = sm + z1 + z3 := IntWalk.i64_in _ (by omega)
                have wr4 : IntKind.i64.wrap ((k : Int) + 1) = (k : Int) + 1 := IntWalk.i64_in _ (by omega)
                have ne1 : (z0 + cp' == sm + z1 + z3) = true := by rw [g2]; simp
                have ne2 : (z0 + cp' != sm + z1 + z3) = false := by rw [g2]; simp
                clear g2 g3 g4 g5 g6 g7 g8 g9 g10 s3
                go_wp2_with fail
                refine Hw.out.mono ?_
                rintro e w5 ⟨rfl, hT5⟩
                clear Hw
                have hT6 := hT5.keep ((Keeps.refl [] w5).alloc (.cells #[.int .i64 z0, .int .i64 z1, .int .i64 (cp'), .int .i64 z3] 41))
                clear hT5
                go_wp2_with fail
                exact ⟨⟨k + 1, to', [z0, z1, cp', z3], S, T, cp', by omega, by omega, by simp, rfl, hI.out, hT6⟩, by simp only [intOf]; omega⟩

          · obtain ⟨_, hI, hpos, hle⟩ := HI.out.drop hk200 (y := y) (by omega) hpj
            obtain ⟨l, hl1, hl2⟩ := getD_mem (List.mem_of_getElem? hpj)
            have hpk := HI.out.okp l hl1 p hl2
            have Hs := tru_take (y : Int) qi HB.out
            rw [tru_pullM HI.out (by omega) hij hg 3, hg] at Hs
            obtain ⟨pf, pb⟩ := p
            obtain ⟨⟨hpf1, hpf2⟩, hb2⟩ := hpk
            simp only at hI hpos hle hpf1 hpf2 hb2 Hs
            have Hs := Lib.hid Hs
            have hI := Lib.hid hI
            have hsb := HI.out.t0 (pf, (y : Int), pb)
            have hsb2 := HI.out.s0 (pf, (y : Int), pb)
            have hcpb := HI.out.cpb
            clear HI HB hpj hij hg hl1 hl2
            generalize to.set y ((to.getD y []).eraseIdx j) = to' at *
            generalize c.set 3 (wrap64 (c.getD 3 0 + 1)) = c' at *
            go_wp2_with fail
            refine Hs.out.mono ?_
            rintro e w4 ⟨rfl, hT⟩
            clear Hs
            have hkey0 : okKey (pf, (y : Int), pb) := ⟨by constructor <;> simp only <;> omega, by constructor <;> simp only <;> omega, hb2⟩
            replace hT := hT.keep (Keeps.refl _ _).drew
            have hkey : okKey (pf, (y : Int), pb) := ⟨by constructor <;> simp only <;> omega, by constructor <;> simp only <;> omega, hb2⟩
            have hlk := cmap_lookup hT.map2 hkey
            obtain ⟨st, es1, c1, hme, hE⟩ := cmap_entry hT.map2 hkey
            have hT2 := hT.set2 hE.1
            have hlk2 := cmap_lookup hT2.map2 hkey
            obtain ⟨es2, hst, hF2⟩ := cmap_store (T (pf, (y : Int), pb) + 1) (heap_setBlock hT.map2.lt) hE
            have hT3 := hT2.set2 hF2
            have hgo : goInt (st : Int) = .int .i64 st := rfl
            rw [hgo] at hme hst
            simp only [keyV] at hlk hme hlk2
            have hwrap : IntKind.i64.wrap (T (pf, (y : Int), pb) + 1) = T (pf, (y : Int), pb) + 1 := IntWalk.i64_in _ (by omega)
            clear hE hF2 hgo hT hT2 hkey
            generalize T (pf, (y : Int), pb) = sk at *
            generalize hw5 : setBlock _ _ (Obj.map es1 c1) = w5 at *
            generalize hw6 : setBlock _ _ (Obj.map es2 c1) = w6 at *
            clear hw5 hw6
            go_wp2_with fail
            refine wp_region_chain (fun w' => (Instr.lookup 52 (.map (some (M + 1))) (.agg #[.int .i64 pf, .int .i64 (y : Int), .string pb]) false).run Try.prog w' = .ok (.int .i64 sk) w') [9] [(0, 0), (1, 0), (2, 0), (3, 0), (4, 0), (5, 1), (6, 0), (7, 2), (8, 0), (9, 3)] (by kernel_rfl) (by kernel_rfl) (fun _ d _ _ _ h => by cases d <;> exact h) hlk ?_
            repeat (first
              | (refine wpC_pure (v := ?_) rfl (by rfl) ?_ ?_
                 rotate_left 1
                 · (intro w; go_simp; try with_reducible rfl)
                 try simp only [Act.put, List.setIfInBounds_toArray, List.set_cons_zero, List.set_cons_succ, List.getElem_toArray, List.getElem_cons_succ, List.getElem_cons_zero])
              | (refine wpC_held (v := ?_) rfl (by rfl) ?_ ?_
                 rotate_left 1
                 · (rintro w hs1; go_simp; try with_reducible rfl)
                 try simp only [Act.put, List.setIfInBounds_toArray, List.set_cons_zero, List.set_cons_succ, List.getElem_toArray, List.getElem_cons_succ, List.getElem_cons_zero]))
            refine wpC_step rfl (by rfl) (fun K hK => ?_)
            go_simp
            refine hK _ _ hlk2 ?_
            clear hK K hme hlk hlk2
            repeat (first
              | (refine wpC_pure (v := ?_) rfl (by rfl) ?_ ?_
                 rotate_left 1
                 · (intro w; go_simp; try with_reducible rfl)
                 try simp only [Act.put, List.setIfInBounds_toArray, List.set_cons_zero, List.set_cons_succ, List.getElem_toArray, List.getElem_cons_succ, List.getElem_cons_zero])
              | (refine wpC_held (v := ?_) rfl (by rfl) ?_ ?_
                 rotate_left 1
                 · (rintro w hs1; go_simp; try with_reducible rfl)
                 try simp only [Act.put, List.setIfInBounds_toArray, List.set_cons_zero, List.set_cons_succ, List.getElem_toArray, List.getElem_cons_succ, List.getElem_cons_zero]))
            refine wpC_last rfl (by rfl) (fun K hK => ?_)
            go_simp
            refine hK _ _ ?_
            clear hK K hst
            refine wpC_nil ?_

            replace hT := hT3.unbox
            clear hT3
            replace hT := hT.keep (Keeps.refl _ _).drew
            have hl1 := cmap_lookup hT.map1 hkey0
            have hl2 := cmap_lookup hT.map2 hkey0
            have hu : upd T (pf, (y : Int), pb) (sk + 1) (pf, (y : Int), pb) = sk + 1 := by simp [upd]
            rw [hu] at hl2
            simp only [keyV] at hl1 hl2
            clear hu
            generalize S (pf, (y : Int), pb) = s1 at *
            have wr5 : IntKind.i64.wrap (s1 + cp') = s1 + cp' := IntWalk.i64_in _ (by omega)
            have dz : (s1 == 0) = false := by simp; omega
            have dg : decide (sk + 1 > s1 + cp') = false := by simp; omega
            have dg2 : decide (s1 + cp' < sk + 1) = false := dg
            go_wp2_with fail
            refine wp_region_chain (fun w' => (Instr.lookup 52 (.map (some M)) (.agg #[.int .i64 pf, .int .i64 (y : Int), .string pb]) false).run Try.prog w' = .ok (.int .i64 s1) w' ∧ (Instr.lookup 52 (.map (some (M + 1))) (.agg #[.int .i64 pf, .int .i64 (y : Int), .string pb]) false).run Try.prog w' = .ok (.int .i64 (sk + 1)) w') [] [(0, 0), (1, 0), (2, 0), (3, 0), (4, 0), (5, 1), (6, 0), (7, 0), (8, 0), (9, 0), (10, 0), (11, 0), (12, 0), (13, 1), (14, 0), (15, 0), (16, 0), (17, 0), (18, 0), (19, 1), (20, 0), (21, 0), (22, 0), (23, 0)] (by kernel_rfl) (by kernel_rfl) (fun _ d _ _ _ h => by cases d <;> exact h) ⟨hl1, hl2⟩ ?_
            repeat (first
              | (refine wpC_pure (v := ?_) rfl (by rfl) ?_ ?_
                 rotate_left 1
                 · (intro w; go_simp; try with_reducible rfl)
                 try simp only [Act.put, List.setIfInBounds_toArray, List.set_cons_zero, List.set_cons_succ, List.getElem_toArray, List.getElem_cons_succ, List.getElem_cons_zero])
              | (refine wpC_held (v := ?_) rfl (by rfl) ?_ ?_
                 rotate_left 1
                 · (rintro w ⟨hs1, hs2⟩; go_simp; try with_reducible rfl)
                 try simp only [Act.put, List.setIfInBounds_toArray, List.set_cons_zero, List.set_cons_succ, List.getElem_toArray, List.getElem_cons_succ, List.getElem_cons_zero]))
            refine wpC_nil ?_
            clear hl1 hl2
            go_wp2_with fail
            obtain ⟨hsum, _, hsums⟩ := hI.out.sums (by omega)
            obtain ⟨z0, z1, z2, z3, rfl⟩ := four_cells c' hI.out.hc
            have g1 := (hI.out.last (by omega)).1.symm
            subst g1
            clear hsum
            go_loopw [15, 144] (fun sm j wr => ∃ j' : Nat, j' ≤ 3 ∧ j = .int .i64 j' ∧ sm = .int .i64 (sumTo to' j') ∧ Tru W wr a t to' [z0, z1, cp', z3] M (M + 1) (S) (upd T (pf, (y : Int), pb) (sk + 1)) []) (fun _ j _ => 3 - (intOf j).toNat)
            case atStart => exact ⟨0, by omega, rfl, rfl, hT⟩
            case round =>
              obtain ⟨j, hj, rfl, rfl, hTj⟩ := hrel
              clear hT
              by_cases hj3 : j < 3
              · have d3 : decide ((j : Int) < 3) = true := by simp; omega
                have hwm := tru_wayM hI.out hj3
                have Hw := tru_way (j : Int) hTj
                rw [hwm] at Hw
                have Hw := Lib.hid Hw
                have hs1 := hsums j hj
                have hs2 := hsums (j + 1) (by omega)
                have hs3 : sumTo to' (j + 1) = sumTo to' j + ((to'.getD j []).length : Int) := rfl
                have wr1 : IntKind.i64.wrap (sumTo to' j + ((to'.getD j []).length : Int)) = sumTo to' j + ((to'.getD j []).length : Int) := IntWalk.i64_in _ (by omega)
                have wr2 : IntKind.i64.wrap ((j : Int) + 1) = (j : Int) + 1 := IntWalk.i64_in _ (by omega)
                clear hwm hTj hsums hs1 hs2 hs3
                generalize hln : ((to'.getD j []).length : Int) = ln at *
                go_wp2_with fail
                refine Hw.out.mono ?_
                rintro e w5 ⟨rfl, hT5⟩
                clear Hw
                go_wp2_with fail
                exact ⟨⟨j + 1, by omega, by simp, by rw [← hln]; rfl, hT5⟩, by simp only [intOf]; omega⟩
              · have hj3' : j = 3 := by omega
                subst hj3'
                have d3 : decide (((3 : Nat) : Int) < 3) = false := by decide
                obtain ⟨_, g2, g3, g4, g5, g6, g7, g8, g9, g10⟩ := hI.out.last (by omega)
                have Hw := Lib.hid (tru_counts hTj)
                clear hTj
                have s3 := hsums 3 (by omega)
                clear hsums
                generalize sumTo to' 3 = sm at *
                have wr1 : IntKind.i64.wrap (z0 + cp') = z0 + cp' := IntWalk.i64_in _ (by omega)
                have wr2 : IntKind.i64.wrap (sm + z1) = sm + z1 := IntWalk.i64_in _ (by omega)
                have wr3 : IntKind.i64.wrap (sm + z1 + z3) = sm + z1 + z3 := IntWalk.i64_in _ (by omega)
                have wr4 : IntKind.i64.wrap ((k : Int) + 1) = (k : Int) + 1 := IntWalk.i64_in _ (by omega)
                have ne1 : (z0 + cp' == sm + z1 + z3) = true := by rw [g2]; simp
                have ne2 : (z0 + cp' != sm + z1 + z3) = false := by rw [g2]; simp
                clear g2 g3 g4 g5 g6 g7 g8 g9 g10 s3
                go_wp2_with fail
                refine Hw.out.mono ?_
                rintro e w5 ⟨rfl, hT5⟩
                clear Hw
                have hT6 := hT5.keep ((Keeps.refl [] w5).alloc (.cells #[.int .i64 z0, .int .i64 z1, .int .i64 (cp'), .int .i64 z3] 41))
                clear hT5
                go_wp2_with fail
                exact ⟨⟨k + 1, to', [z0, z1, cp', z3], S, upd T (pf, (y : Int), pb) (sk + 1), cp', by omega, by omega, by simp, rfl, hI.out, hT6⟩, by simp only [intOf]; omega⟩

        · rw [hkk]
          clear hkk hkt hkt2 k1 k2
          have Hs := Lib.hid (tru_lose (y : Int) qi HB.out)
          have hI := Lib.hid (tru_loseM HI.out hk200 (y := y) (by omega) qi)
          clear HI HB
          generalize (pullM to c y qi 1).1 = to' at *
          generalize (pullM to c y qi 1).2 = c' at *
          generalize (getM to y qi).2 = g1 at *
          go_wp2_with fail
          refine Hs.out.mono ?_
          rintro e w4 ⟨rfl, hT⟩
          clear Hs
          replace hT := hT.unbox
          go_wp2_with fail
          obtain ⟨hsum, _, hsums⟩ := hI.out.sums (by omega)
          obtain ⟨z0, z1, z2, z3, rfl⟩ := four_cells c' hI.out.hc
          have g1 := (hI.out.last (by omega)).1.symm
          subst g1
          clear hsum
          go_loopw [15, 144] (fun sm j wr => ∃ j' : Nat, j' ≤ 3 ∧ j = .int .i64 j' ∧ sm = .int .i64 (sumTo to' j') ∧ Tru W wr a t to' [z0, z1, cp', z3] M (M + 1) (S) (T) []) (fun _ j _ => 3 - (intOf j).toNat)
          case atStart => exact ⟨0, by omega, rfl, rfl, hT⟩
          case round =>
            obtain ⟨j, hj, rfl, rfl, hTj⟩ := hrel
            clear hT
            by_cases hj3 : j < 3
            · have d3 : decide ((j : Int) < 3) = true := by simp; omega
              have hwm := tru_wayM hI.out hj3
              have Hw := tru_way (j : Int) hTj
              rw [hwm] at Hw
              have Hw := Lib.hid Hw
              have hs1 := hsums j hj
              have hs2 := hsums (j + 1) (by omega)
              have hs3 : sumTo to' (j + 1) = sumTo to' j + ((to'.getD j []).length : Int) := rfl
              have wr1 : IntKind.i64.wrap (sumTo to' j + ((to'.getD j []).length : Int)) = sumTo to' j + ((to'.getD j []).length : Int) := IntWalk.i64_in _ (by omega)
              have wr2 : IntKind.i64.wrap ((j : Int) + 1) = (j : Int) + 1 := IntWalk.i64_in _ (by omega)
              clear hwm hTj hsums hs1 hs2 hs3
              generalize hln : ((to'.getD j []).length : Int) = ln at *
              go_wp2_with fail
              refine Hw.out.mono ?_
              rintro e w5 ⟨rfl, hT5⟩
              clear Hw
              go_wp2_with fail
              exact ⟨⟨j + 1, by omega, by simp, by rw [← hln]; rfl, hT5⟩, by simp only [intOf]; omega⟩
            · have hj3' : j = 3 := by omega
              subst hj3'
              have d3 : decide (((3 : Nat) : Int) < 3) = false := by decide
              obtain ⟨_, g2, g3, g4, g5, g6, g7, g8, g9, g10⟩ := hI.out.last (by omega)
              have Hw := Lib.hid (tru_counts hTj)
              clear hTj
              have s3 := hsums 3 (by omega)
              clear hsums
              generalize sumTo to' 3 = sm at *
              have wr1 : IntKind.i64.wrap (z0 + cp') = z0 + cp' := IntWalk.i64_in _ (by omega)
              have wr2 : IntKind.i64.wrap (sm + z1) = sm + z1 := IntWalk.i64_in _ (by omega)
              have wr3 : IntKind.i64.wrap (sm + z1 + z3) = sm + z1 + z3 := IntWalk.i64_in _ (by omega)
              have wr4 : IntKind.i64.wrap ((k : Int) + 1) = (k : Int) + 1 := IntWalk.i64_in _ (by omega)
              have ne1 : (z0 + cp' == sm + z1 + z3) = true := by rw [g2]; simp
              have ne2 : (z0 + cp' != sm + z1 + z3) = false := by rw [g2]; simp
              clear g2 g3 g4 g5 g6 g7 g8 g9 g10 s3
              go_wp2_with fail
              refine Hw.out.mono ?_
              rintro e w5 ⟨rfl, hT5⟩
              clear Hw
              have hT6 := hT5.keep ((Keeps.refl [] w5).alloc (.cells #[.int .i64 z0, .int .i64 z1, .int .i64 (cp'), .int .i64 z3] 41))
              clear hT5
              go_wp2_with fail
              exact ⟨⟨k + 1, to', [z0, z1, cp', z3], S, T, cp', by omega, by omega, by simp, rfl, hI.out, hT6⟩, by simp only [intOf]; omega⟩

        · rw [hkk]
          clear hkk hkt hkt2 k1 k2
          have Hs := tru_copy (y : Int) qi HB.out
          have hcpb := HI.out.cpb
          rcases tru_copyAny HI.out hk200 (y := y) (by omega) qi with ⟨e0, hI⟩ | ⟨e0, hI⟩
          · have hI := Lib.hid hI
            rw [e0] at Hs
            have Hs := Lib.hid Hs
            clear HI HB e0
            generalize (copyM to c y qi).1 = to' at *
            generalize (copyM to c y qi).2.1 = c' at *
            have wr5 : IntKind.i64.wrap (cp' + 1) = cp' + 1 := IntWalk.i64_in _ (by omega)
            go_wp2_with fail
            refine Hs.out.mono ?_
            rintro e w4 ⟨rfl, hT⟩
            clear Hs
            replace hT := hT.unbox
            go_wp2_with fail
            obtain ⟨hsum, _, hsums⟩ := hI.out.sums (by omega)
            obtain ⟨z0, z1, z2, z3, rfl⟩ := four_cells c' hI.out.hc
            have g1 := (hI.out.last (by omega)).1.symm
            subst g1
            clear hsum
            go_loopw [15, 144] (fun sm j wr => ∃ j' : Nat, j' ≤ 3 ∧ j = .int .i64 j' ∧ sm = .int .i64 (sumTo to' j') ∧ Tru W wr a t to' [z0, z1, (cp' + 1), z3] M (M + 1) (S) (T) []) (fun _ j _ => 3 - (intOf j).toNat)
            case atStart => exact ⟨0, by omega, rfl, rfl, hT⟩
            case round =>
              obtain ⟨j, hj, rfl, rfl, hTj⟩ := hrel
              clear hT
              by_cases hj3 : j < 3
              · have d3 : decide ((j : Int) < 3) = true := by simp; omega
                have hwm := tru_wayM hI.out hj3
                have Hw := tru_way (j : Int) hTj
                rw [hwm] at Hw
                have Hw := Lib.hid Hw
                have hs1 := hsums j hj
                have hs2 := hsums (j + 1) (by omega)
                have hs3 : sumTo to' (j + 1) = sumTo to' j + ((to'.getD j []).length : Int) := rfl
                have wr1 : IntKind.i64.wrap (sumTo to' j + ((to'.getD j []).length : Int)) = sumTo to' j + ((to'.getD j []).length : Int) := IntWalk.i64_in _ (by omega)
                have wr2 : IntKind.i64.wrap ((j : Int) + 1) = (j : Int) + 1 := IntWalk.i64_in _ (by omega)
                clear hwm hTj hsums hs1 hs2 hs3
                generalize hln : ((to'.getD j []).length : Int) = ln at *
                go_wp2_with fail
                refine Hw.out.mono ?_
                rintro e w5 ⟨rfl, hT5⟩
                clear Hw
                go_wp2_with fail
                exact ⟨⟨j + 1, by omega, by simp, by rw [← hln]; rfl, hT5⟩, by simp only [intOf]; omega⟩
              · have hj3' : j = 3 := by omega
                subst hj3'
                have d3 : decide (((3 : Nat) : Int) < 3) = false := by decide
                obtain ⟨_, g2, g3, g4, g5, g6, g7, g8, g9, g10⟩ := hI.out.last (by omega)
                have Hw := Lib.hid (tru_counts hTj)
                clear hTj
                have s3 := hsums 3 (by omega)
                clear hsums
                generalize sumTo to' 3 = sm at *
                have wr1 : IntKind.i64.wrap (z0 + (cp' + 1)) = z0 + (cp' + 1) := IntWalk.i64_in _ (by omega)
                have wr2 : IntKind.i64.wrap (sm + z1) = sm + z1 := IntWalk.i64_in _ (by omega)
                have wr3 : IntKind.i64.wrap (sm + z1 + z3) = sm + z1 + z3 := IntWalk.i64_in _ (by omega)
                have wr4 : IntKind.i64.wrap ((k : Int) + 1) = (k : Int) + 1 := IntWalk.i64_in _ (by omega)
                have ne1 : (z0 + (cp' + 1) == sm + z1 + z3) = true := by rw [g2]; simp
                have ne2 : (z0 + (cp' + 1) != sm + z1 + z3) = false := by rw [g2]; simp
                clear g2 g3 g4 g5 g6 g7 g8 g9 g10 s3
                go_wp2_with fail
                refine Hw.out.mono ?_
                rintro e w5 ⟨rfl, hT5⟩
                clear Hw
                have hT6 := hT5.keep ((Keeps.refl [] w5).alloc (.cells #[.int .i64 z0, .int .i64 z1, .int .i64 ((cp' + 1)), .int .i64 z3] 41))
                clear hT5
                go_wp2_with fail
                exact ⟨⟨k + 1, to', [z0, z1, (cp' + 1), z3], S, T, (cp' + 1), by omega, by omega, by simp, rfl, hI.out, hT6⟩, by simp only [intOf]; omega⟩

          · have hI := Lib.hid hI
            have Hs := Lib.hid Hs
            clear HI HB
            generalize (copyM to c y qi).1 = to' at *
            generalize (copyM to c y qi).2.1 = c' at *
            generalize (copyM to c y qi).2.2 = g1 at *
            go_wp2_with fail
            refine Hs.out.mono ?_
            rintro e w4 ⟨rfl, hT⟩
            clear Hs
            replace hT := hT.unbox
            go_wp2_with fail
            obtain ⟨hsum, _, hsums⟩ := hI.out.sums (by omega)
            obtain ⟨z0, z1, z2, z3, rfl⟩ := four_cells c' hI.out.hc
            have g1 := (hI.out.last (by omega)).1.symm
            subst g1
            clear hsum
            go_loopw [15, 144] (fun sm j wr => ∃ j' : Nat, j' ≤ 3 ∧ j = .int .i64 j' ∧ sm = .int .i64 (sumTo to' j') ∧ Tru W wr a t to' [z0, z1, cp', z3] M (M + 1) (S) (T) []) (fun _ j _ => 3 - (intOf j).toNat)
            case atStart => exact ⟨0, by omega, rfl, rfl, hT⟩
            case round =>
              obtain ⟨j, hj, rfl, rfl, hTj⟩ := hrel
              clear hT
              by_cases hj3 : j < 3
              · have d3 : decide ((j : Int) < 3) = true := by simp; omega
                have hwm := tru_wayM hI.out hj3
                have Hw := tru_way (j : Int) hTj
                rw [hwm] at Hw
                have Hw := Lib.hid Hw
                have hs1 := hsums j hj
                have hs2 := hsums (j + 1) (by omega)
                have hs3 : sumTo to' (j + 1) = sumTo to' j + ((to'.getD j []).length : Int) := rfl
                have wr1 : IntKind.i64.wrap (sumTo to' j + ((to'.getD j []).length : Int)) = sumTo to' j + ((to'.getD j []).length : Int) := IntWalk.i64_in _ (by omega)
                have wr2 : IntKind.i64.wrap ((j : Int) + 1) = (j : Int) + 1 := IntWalk.i64_in _ (by omega)
                clear hwm hTj hsums hs1 hs2 hs3
                generalize hln : ((to'.getD j []).length : Int) = ln at *
                go_wp2_with fail
                refine Hw.out.mono ?_
                rintro e w5 ⟨rfl, hT5⟩
                clear Hw
                go_wp2_with fail
                exact ⟨⟨j + 1, by omega, by simp, by rw [← hln]; rfl, hT5⟩, by simp only [intOf]; omega⟩
              · have hj3' : j = 3 := by omega
                subst hj3'
                have d3 : decide (((3 : Nat) : Int) < 3) = false := by decide
                obtain ⟨_, g2, g3, g4, g5, g6, g7, g8, g9, g10⟩ := hI.out.last (by omega)
                have Hw := Lib.hid (tru_counts hTj)
                clear hTj
                have s3 := hsums 3 (by omega)
                clear hsums
                generalize sumTo to' 3 = sm at *
                have wr1 : IntKind.i64.wrap (z0 + cp') = z0 + cp' := IntWalk.i64_in _ (by omega)
                have wr2 : IntKind.i64.wrap (sm + z1) = sm + z1 := IntWalk.i64_in _ (by omega)
                have wr3 : IntKind.i64.wrap (sm + z1 + z3) = sm + z1 + z3 := IntWalk.i64_in _ (by omega)
                have wr4 : IntKind.i64.wrap ((k : Int) + 1) = (k : Int) + 1 := IntWalk.i64_in _ (by omega)
                have ne1 : (z0 + cp' == sm + z1 + z3) = true := by rw [g2]; simp
                have ne2 : (z0 + cp' != sm + z1 + z3) = false := by rw [g2]; simp
                clear g2 g3 g4 g5 g6 g7 g8 g9 g10 s3
                go_wp2_with fail
                refine Hw.out.mono ?_
                rintro e w5 ⟨rfl, hT5⟩
                clear Hw
                have hT6 := hT5.keep ((Keeps.refl [] w5).alloc (.cells #[.int .i64 z0, .int .i64 z1, .int .i64 (cp'), .int .i64 z3] 41))
                clear hT5
                go_wp2_with fail
                exact ⟨⟨k + 1, to', [z0, z1, cp', z3], S, T, cp', by omega, by omega, by simp, rfl, hI.out, hT6⟩, by simp only [intOf]; omega⟩

        · rw [hkk]
          clear hkk hkt hkt2 k1 k2
          have Hs := Lib.hid (tru_clear (y : Int) HB.out)
          have hI := Lib.hid (HI.out.clear hk200 (y : Int))
          clear HI HB
          generalize (clearM to c y).1 = to' at *
          generalize (clearM to c y).2.1 = c' at *
          generalize (clearM to c y).2.2.1 = g1 at *
          generalize (clearM to c y).2.2.2 = g2 at *
          go_wp2_with fail
          refine Hs.out.mono ?_
          rintro e w4 ⟨rfl, hT⟩
          clear Hs
          replace hT := hT.unbox
          go_wp2_with fail
          obtain ⟨hsum, _, hsums⟩ := hI.out.sums (by omega)
          obtain ⟨z0, z1, z2, z3, rfl⟩ := four_cells c' hI.out.hc
          have g1 := (hI.out.last (by omega)).1.symm
          subst g1
          clear hsum
          go_loopw [15, 144] (fun sm j wr => ∃ j' : Nat, j' ≤ 3 ∧ j = .int .i64 j' ∧ sm = .int .i64 (sumTo to' j') ∧ Tru W wr a t to' [z0, z1, cp', z3] M (M + 1) (S) (T) []) (fun _ j _ => 3 - (intOf j).toNat)
          case atStart => exact ⟨0, by omega, rfl, rfl, hT⟩
          case round =>
            obtain ⟨j, hj, rfl, rfl, hTj⟩ := hrel
            clear hT
            by_cases hj3 : j < 3
            · have d3 : decide ((j : Int) < 3) = true := by simp; omega
              have hwm := tru_wayM hI.out hj3
              have Hw := tru_way (j : Int) hTj
              rw [hwm] at Hw
              have Hw := Lib.hid Hw
              have hs1 := hsums j hj
              have hs2 := hsums (j + 1) (by omega)
              have hs3 : sumTo to' (j + 1) = sumTo to' j + ((to'.getD j []).length : Int) := rfl
              have wr1 : IntKind.i64.wrap (sumTo to' j + ((to'.getD j []).length : Int)) = sumTo to' j + ((to'.getD j []).length : Int) := IntWalk.i64_in _ (by omega)
              have wr2 : IntKind.i64.wrap ((j : Int) + 1) = (j : Int) + 1 := IntWalk.i64_in _ (by omega)
              clear hwm hTj hsums hs1 hs2 hs3
              generalize hln : ((to'.getD j []).length : Int) = ln at *
              go_wp2_with fail
              refine Hw.out.mono ?_
              rintro e w5 ⟨rfl, hT5⟩
              clear Hw
              go_wp2_with fail
              exact ⟨⟨j + 1, by omega, by simp, by rw [← hln]; rfl, hT5⟩, by simp only [intOf]; omega⟩
            · have hj3' : j = 3 := by omega
              subst hj3'
              have d3 : decide (((3 : Nat) : Int) < 3) = false := by decide
              obtain ⟨_, g2, g3, g4, g5, g6, g7, g8, g9, g10⟩ := hI.out.last (by omega)
              have Hw := Lib.hid (tru_counts hTj)
              clear hTj
              have s3 := hsums 3 (by omega)
              clear hsums
              generalize sumTo to' 3 = sm at *
              have wr1 : IntKind.i64.wrap (z0 + cp') = z0 + cp' := IntWalk.i64_in _ (by omega)
              have wr2 : IntKind.i64.wrap (sm + z1) = sm + z1 := IntWalk.i64_in _ (by omega)
              have wr3 : IntKind.i64.wrap (sm + z1 + z3) = sm + z1 + z3 := IntWalk.i64_in _ (by omega)
              have wr4 : IntKind.i64.wrap ((k : Int) + 1) = (k : Int) + 1 := IntWalk.i64_in _ (by omega)
              have ne1 : (z0 + cp' == sm + z1 + z3) = true := by rw [g2]; simp
              have ne2 : (z0 + cp' != sm + z1 + z3) = false := by rw [g2]; simp
              clear g2 g3 g4 g5 g6 g7 g8 g9 g10 s3
              go_wp2_with fail
              refine Hw.out.mono ?_
              rintro e w5 ⟨rfl, hT5⟩
              clear Hw
              have hT6 := hT5.keep ((Keeps.refl [] w5).alloc (.cells #[.int .i64 z0, .int .i64 z1, .int .i64 (cp'), .int .i64 z3] 41))
              clear hT5
              go_wp2_with fail
              exact ⟨⟨k + 1, to', [z0, z1, cp', z3], S, T, cp', by omega, by omega, by simp, rfl, hI.out, hT6⟩, by simp only [intOf]; omega⟩

      · have d1 : decide ((k : Int) < (n : Int)) = true := by simp; omega
        have d2 : decide ((k : Int) < 200) = false := by simp; omega
        have hold := hT.old
        clear hT HL hI
        go_wp2_with fail
        go_ret
        exact ⟨rfl, hold⟩
    · have d1 : decide ((k : Int) < (n : Int)) = false := by simp; omega
      have hold := hT.old
      clear hT HL hI
      go_wp2_with fail
      go_ret
      exact ⟨rfl, hold⟩

end Go.Proofs.Ytgkdlpbnhjfkdaa
