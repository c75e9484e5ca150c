/- Contract of slices.DeleteFunc at packets. Conditions: those of the theorem. -/
import Derived.Test.YtgkdlpbnhjfkdaaNetL
namespace Go.Proofs.Ytgkdlpbnhjfkdaa
open Go.RowKit

theorem list_get_two {cur : Array Value} {l : List Pk} {n : Nat} (ht : cur.toList.take (n * 2) = l.flatMap encPk) (hl : l.length = n) {j : Nat} (hj : j < n) :
    cur[j * 2]? = (l[j]?).map (fun x => Value.int .i64 x.1) ∧ cur[j * 2 + 1]? = (l[j]?).map (fun x => Value.string x.2) := by
  have e : l[j]? = some l[j] := List.getElem?_eq_getElem (by omega)
  have h0 := flat_get0 e
  have h1 := flat_get1 e
  rw [← ht, List.getElem?_take_of_lt (by omega)] at h0
  rw [← ht, List.getElem?_take_of_lt (by omega)] at h1
  rw [e]
  exact ⟨by simpa using h0, by simpa using h1⟩

theorem DelSt.start {p : Pk → Bool} {l : List Pk} {cur : Array Value} {i : Nat} (ht : cur.toList.take (l.length * 2) = l.flatMap encPk) (hi : i < l.length) (h3 : (l.take i).filter (fun x => !p x) = l.take i) (h4 : (l.take (i + 1)).filter (fun x => !p x) = l.take i) : DelSt p l cur i (i + 1) := by
  refine ⟨?_, by rw [h4]; simp; omega, fun j _ hj => list_get_two ht rfl hj⟩
  rw [h4, ← flat_take, ← ht, List.take_take]
  congr 1
  omega

theorem DelSt.skip {p : Pk → Bool} {l : List Pk} {cur : Array Value} {m k : Nat} (h : DelSt p l cur m k) (hk : k < l.length) (hp : p l[k] = true) : DelSt p l cur m (k + 1) := by
  have e : (l.take (k + 1)).filter (fun x => !p x) = (l.take k).filter (fun x => !p x) := by
    rw [List.take_succ_eq_append_getElem hk, List.filter_append]; simp [hp]
  exact ⟨by rw [e]; exact h.head, by rw [e]; exact h.len, fun j hj hl => h.rest j (by omega) hl⟩

theorem DelSt.keep {p : Pk → Bool} {l : List Pk} {cur : Array Value} {m k : Nat} (h : DelSt p l cur m k) (hk : k < l.length) (hm : m < k) (hs : l.length * 2 ≤ cur.size) (hp : p l[k] = false) :
    DelSt p l ((cur.setIfInBounds (m * 2) (.int .i64 l[k].1)).setIfInBounds (m * 2 + 1) (.string l[k].2)) (m + 1) (k + 1) := by
  have e : (l.take (k + 1)).filter (fun x => !p x) = (l.take k).filter (fun x => !p x) ++ [l[k]] := by
    rw [List.take_succ_eq_append_getElem hk, List.filter_append]; simp [hp]
  refine ⟨?_, by rw [e]; simp [h.len], fun j hj hl => ?_⟩
  · rw [e, List.flatMap_append, ← h.head]
    apply List.ext_getElem?
    intro i
    by_cases h1 : i < m * 2
    · rw [List.getElem?_append_left (by simp; omega), List.getElem?_take_of_lt (by omega), List.getElem?_take_of_lt (by omega)]
      simp [Array.getElem?_setIfInBounds, show ¬ (m * 2 + 1 = i) by omega, show ¬ (m * 2 = i) by omega]
    · rw [List.getElem?_append_right (by simp; omega)]
      have hl : (List.take (m * 2) cur.toList).length = m * 2 := by simp; omega
      rw [hl]
      by_cases h2 : i = m * 2
      · subst h2
        rw [List.getElem?_take_of_lt (by omega), Array.toList_setIfInBounds, Array.toList_setIfInBounds, List.getElem?_set_ne (by omega), List.getElem?_set_self (by simp; omega)]
        simp [encPk]
      · by_cases h3 : i = m * 2 + 1
        · subst h3
          rw [List.getElem?_take_of_lt (by omega), Array.toList_setIfInBounds, List.getElem?_set_self (by simp; omega)]
          simp [encPk]
        · rw [List.getElem?_eq_none (by simp; omega), List.getElem?_eq_none (by simp [encPk]; omega)]
  · have := h.rest j (by omega) hl
    simp only [Array.getElem?_setIfInBounds]
    rw [if_neg (by omega), if_neg (by omega), if_neg (by omega), if_neg (by omega)]
    exact this

set_option maxHeartbeats 1000000 in
theorem deleteFunc_any (base : Nat) (v : Value) (l : List Pk) (w : World) (p : Pk → Bool) (f : Nat) (cap : Array Value) (hn : l.length ≤ 4096) (ho : w.ownsRow base 68 2 v l.length (l.flatMap encPk))
   (hg : ∀ (args : Array Value) (w : World), (callFunc f args).run Try.prog w = .ok (.enter f args) w)
   (hp : PredPk w v.ownBlock.toList f cap p) :
    Calls Try.prog 30 #[v, .func (.func f) #[] cap] w fun e w' => ∃ ao c, e = .returned (.slice ao (l.filter fun x => !p x).length c) ∧
      w'.ownsRow base 68 2 (.slice ao (l.filter fun x => !p x).length c) (l.filter fun x => !p x).length ((l.filter fun x => !p x).flatMap encPk) ∧ Keeps v.ownBlock.toList w w' := by
  have hx : ∀ k x, l[k]? = some x → ∃ b o, (match v with | .slice ao _ _ => ao | _ => none) = some ⟨b, o, none⟩ ∧ w.cell? ⟨b, o + k * 2, none⟩ = some (.int .i64 x.1) ∧ w.cell? ⟨b, o + k * 2 + 1, none⟩ = some (.string x.2) := by
    intro k x hk
    have hkl := (List.getElem?_eq_some_iff.1 hk).1
    obtain ⟨g, cp, rfl, _, _⟩ := ho.form (by omega)
    refine ⟨g, 0, rfl, ?_, ?_⟩
    · rw [Nat.zero_add, ho.cellAt _ (by omega)]; exact flat_get0 hk
    · rw [Nat.zero_add, ho.cellAt _ (by omega)]; exact flat_get1 hk
  have hp0 : PredPk w [] f cap p := fun w' x hk => hp w' x (hk.mono (by simp))
  obtain ⟨ao, c, rfl⟩ := own_form ho
  have HI := Lib.hid (indexFuncPk_any ao l.length c l w p f cap hn rfl hg hx hp0)
  clear hx hp0
  by_cases hf : foundPk p l 0 = -1
  · rw [hf] at HI
    have hfl := foundPk_none hf
    have Hfl := Lib.hid hfl
    clear hfl hf hp
    go_enter Try.func30, Try.ntmps30
    go_wp2_with fail
    refine HI.out.mono ?_
    rintro e w1 ⟨rfl, hk1⟩
    clear HI
    go_wp2_with fail
    go_ret
    refine ⟨ao, c, ?_, ?_, hk1.mono (by simp)⟩
    · rw [Hfl.out]; rfl
    · rw [Hfl.out]; exact own_kept ho hk1 (by simp)
  · obtain ⟨i, hi1, hi2, hi3, hi4⟩ := foundPk_some hf
    rw [hi1] at HI
    simp only [Nat.zero_add] at HI
    clear hi1 hf
    rcases ho.2 with ⟨_, h0⟩ | ⟨g, cap', cur, hv, hb, hgc, hnc, hmc, hcs, hct⟩
    · omega
    simp only [Value.slice.injEq] at hv
    obtain ⟨rfl, _, rfl⟩ := hv
    have hds := DelSt.start hct hi2 hi3 hi4
    have Hds := Lib.hid hds
    have Hcs := Lib.hid hcs
    have Hgc := Lib.hid hgc
    have Hp := Lib.hid hp
    clear hi3 hi4 hds hcs hct hgc hp ho
    obtain ⟨n, hn'⟩ : ∃ n, n = l.length := ⟨_, rfl⟩
    rw [← hn'] at hn hi2 hnc HI ⊢
    have Hn := Lib.hid hn'
    clear hn'
    have hne : ((i : Int) == -1) = false := beq_eq_false_iff_ne.2 (by omega)
    go_enter Try.func30, Try.ntmps30
    go_wp2_with fail
    refine HI.out.mono ?_
    rintro e w1 ⟨rfl, hk1⟩
    clear HI
    go_wp2_with fail
    go_loopw [5, 6] (fun a b wr => ∃ (m k : Nat) (cr : Array Value), a = .int .i64 m ∧ b = .int .i64 k ∧ m < k ∧ k ≤ n ∧ Hid (DelSt p l cr m k) ∧ Hid (wr.heap[g]? = some (.cells cr 68 (0, 0))) ∧ Hid (cr.size = c * 2) ∧ Keeps [g] w wr) (fun _ b _ => n - (intOf b).toNat)
    case atStart => exact ⟨i, i + 1, cur, rfl, by go_num, by omega, by omega, Hds, hk1.heap Hgc.out (by simp), Hcs, hk1.mono (by simp)⟩
    case round =>
      obtain ⟨m, k, cr, rfl, rfl, hmk, hkn, hD, hG, hS, hK⟩ := hrel
      clear hk1 Hds Hgc Hcs w1 hi2
      by_cases hlt : k < n
      · have hkl : k < l.length := by rw [← Hn.out]; exact hlt
        have hr := hD.out.rest k (Nat.le_refl _) hkl
        have gg := heap_lt hG.out
        have hkeep := hD.out.keep hkl hmk (by rw [hS.out, ← Hn.out]; omega)
        have hskip := hD.out.skip hkl
        rw [List.getElem?_eq_getElem hkl] at hr
        have c0 : wr.cell? ⟨g, k * 2, none⟩ = some (.int .i64 l[k].1) := by rw [cell_of_row wr g _ _ _ _ hG.out, hr.1]; rfl
        have c1 : wr.cell? ⟨g, k * 2 + 1, none⟩ = some (.string l[k].2) := by rw [cell_of_row wr g _ _ _ _ hG.out, hr.2]; rfl
        have hsz : cr.size = c * 2 := hS.out
        have d0 : ∃ u, wr.cell? ⟨g, m * 2, none⟩ = some u := ⟨cr[m * 2]'(by omega), by rw [cell_of_row wr g _ _ _ _ hG.out]; exact Array.getElem?_eq_getElem _⟩
        have d1 : ∃ u, wr.cell? ⟨g, m * 2 + 1, none⟩ = some u := ⟨cr[m * 2 + 1]'(by omega), by rw [cell_of_row wr g _ _ _ _ hG.out]; exact Array.getElem?_eq_getElem _⟩
        obtain ⟨u0, d0⟩ := d0
        obtain ⟨u1, d1⟩ := d1
        have z0 : wr.frozen? ⟨g, m * 2, none⟩ = false := by simp [World.frozen?, hG.out]
        have z1 : wr.frozen? ⟨g, m * 2 + 1, none⟩ = false := by simp [World.frozen?, hG.out]
        have hA : Keeps [] wr (wr.alloc (.cells #[.int .i64 l[k].1, .string l[k].2] 68 (0, 0))) := (Keeps.refl _ _).alloc _
        have HP := Lib.hid (Hp.out _ l[k] ((hK.then hA).mono (by simp [Value.ownBlock])))
        have hbx : (wr.alloc (.cells #[.int .i64 l[k].1, .string l[k].2] 68 (0, 0))).heap[wr.heap.size]? = some (.cells #[.int .i64 l[k].1, .string l[k].2] 68 (0, 0)) := heap_alloc_new _ _
        clear hsz hr
        have Hkeep := Lib.hid hkeep
        have Hskip := Lib.hid hskip
        clear hkeep hskip
        generalize l[k] = x at *
        obtain ⟨fr, s⟩ := x
        simp only at c0 c1 HP Hkeep Hskip hbx hA
        by_cases hpx : p (fr, s) = true
        · rw [hpx] at HP
          go_wp2_with fail
          refine HP.out.mono ?_
          rintro e w2 ⟨rfl, hk2⟩
          clear HP c0 c1 d0 d1 z0 z1
          go_wp2_with fail
          go_roundw
          case rel => exact ⟨m, k + 1, cr, rfl, by go_num, by omega, by omega, Hskip.out hpx, (hA.then hk2).heap hG.out (by simp), hS, hK.then (hA.then hk2)⟩
          case measure => simp [intOf]; omega
        · have hpx' : p (fr, s) = false := by simpa using hpx
          rw [hpx'] at HP
          go_wp2_with fail
          refine HP.out.mono ?_
          rintro e w2 ⟨rfl, hk2⟩
          have hA2 := hA.then hk2
          have bx := hk2.heap hbx (by simp)
          have b0 := cell_of_row w2 wr.heap.size 0 _ _ _ bx
          have b1 := cell_of_row w2 wr.heap.size 1 _ _ _ bx
          have d0' := hA2.cell d0 (by simp)
          have d1' := hA2.cell d1 (by simp)
          have hG2 := hA2.heap hG.out (by simp)
          have z0' : w2.frozen? ⟨g, m * 2, none⟩ = false := by simp [World.frozen?, hG2]
          have z1' : w2.frozen? ⟨g, m * 2 + 1, none⟩ = false := by simp [World.frozen?, hG2]
          have hG2' := Lib.hid hG2
          clear HP c0 c1 d0 d1 z0 z1 hG2 bx hbx
          go_wp2_with fail
          refine ⟨⟨m + 1, k + 1, (cr.setIfInBounds (m * 2) (.int .i64 fr)).setIfInBounds (m * 2 + 1) (.string s), by go_num, by go_num, by omega, by omega, Hkeep.out hpx', ?_, ?_, ?_⟩, by simp [intOf]; omega⟩
          · exact heap_set_self (heap_set_self hG2'.out)
          · have := hS.out
            show Array.size _ = _
            simpa using this
          · exact ((hK.then hA2).setCell (.inl (by simp)) _).setCell (.inl (by simp)) _
      · have hkn' : k = n := by omega
        subst hkn'
        have hD' := hD.out
        have hsz : cr.size = c * 2 := hS.out
        have e1 : l.take k = l := by rw [Hn.out]; exact List.take_length
        have hfl : (l.filter fun x => !p x).length = m := by have := hD'.len; rw [e1] at this; exact this
        have hhd : cr.toList.take (m * 2) = (l.filter fun x => !p x).flatMap encPk := by have := hD'.head; rw [e1] at this; exact this
        obtain ⟨q, hq⟩ : ∃ q, k - m = q + 1 := ⟨k - m - 1, by omega⟩
        have hcl := run_clear_many (P := Try.prog) (w := wr) (t := 73) (e := 68) (g := g) (o := m * 2) (c := c - m) (n := q) (ty := 0) (z := .agg #[.int .i64 0, .string ⟨#[]⟩]) rt73.und (fun w => by kernel_rfl)
          (by intro v hv; simp [Builtin.zeroCells, Value.cells] at hv; obtain ⟨j, hj, rfl⟩ := hv; rcases Nat.mod_two_eq_zero_or_one j with h | h <;> rw [h] <;> rfl) hG.out (by rw [hsz]; simp [Value.cells]; omega)
        rw [← hq] at hcl
        have Hcl := Lib.hid hcl
        have Hfl := Lib.hid hfl
        have Hhd := Lib.hid hhd
        have Hsz := Lib.hid hsz
        have hne2 : ¬ c = m := by omega
        clear hcl hfl hhd hsz hD' e1 hq
        go_wp2_with (refine list_run rfl (exec_clear rfl (by rfl) Hcl.out) ?_)
        go_ret
        refine ⟨some ⟨g, 0, none⟩, c, by rw [Hfl.out]; rfl, ?_, ?_⟩
        · rw [Hfl.out]
          refine ⟨by rw [flat_len, Hfl.out], .inr ⟨g, c, _, rfl, hb, setRow_heap _ g _ _ 68 (0, 0) hG.out, by omega, hmc, ?_, ?_⟩⟩
          · have := Hsz.out
            simp [size_zeroCells]
            omega
          · have := Hsz.out
            rw [← Hhd.out]
            simp only [List.append_assoc]
            rw [List.take_append_of_le_length (by simp; omega), List.take_of_length_le (by simp; omega)]
        · exact (hK.setRow (.inl (by simp)) _).mono (by simp [Value.ownBlock])

end Go.Proofs.Ytgkdlpbnhjfkdaa
