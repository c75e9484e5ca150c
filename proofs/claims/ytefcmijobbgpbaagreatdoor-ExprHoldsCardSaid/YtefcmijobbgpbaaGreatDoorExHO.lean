/- Expressions: what the code of chapter 11 computes (ExHF ExHG ExHJ ExHK). Conditions: those of each theorem. -/
import Derived.Test.YtefcmijobbgpbaaGreatDoorExHN
import Derived.Test.YtefcmijobbgpbaaGreatDoorExBB

namespace Go.Proofs.YtefcmijobbgpbaaGreatDoor
open Go.RowKit

set_option maxHeartbeats 8000000 in
set_option maxRecDepth 100000 in
theorem reck_field (x : List PartR) (at_ : Nat) (v vn vl : Value) (ev : EvR) (names : List ByteArray) (last : List EvR) (w : World) (hxl : x.length ≤ 200) (hA : ArgPart w v x) (hN : ArgStr w vn names) (hL : ArgEv w vl last) (hsame : names.length = last.length) (hnl : names.length ≤ 9000000000000) (p : PartR) (hp : x[at_]? = some p) (hk : p.kind = 3) (hf : 0 ≤ p.field ∧ p.field ≤ 5) :
    Calls Tryz.prog 53 #[v, .int .i64 (at_ : Int), .agg #[.string ev.key, .string ev.typ, .int .i64 ev.n0, .int .i64 ev.n1, .int .i64 ev.n2, .int .i64 ev.n3, .string ev.text], vn, vl] w fun e w' => e = .returned (.tuple #[valAgg (if p.stage.data.toList = [] then evVal ev p.field else evVal (pickM ev names last p.stage 0) p.field), .int .i64 ((at_ : Int) + 1)]) ∧ Keeps [] w w' := by
  have hk0 := Keeps.refl [] w
  obtain ⟨ao, cap, rfl, _, h2⟩ := hA
  have hlt : at_ < x.length := by
    rcases Nat.lt_or_ge at_ x.length with h | h
    · exact h
    · rw [List.getElem?_eq_none h] at hp; cases hp
  obtain ⟨n, hn⟩ : ∃ n, x.length = n := ⟨_, rfl⟩
  rw [hn] at hlt hxl ⊢
  have b0 : (0 : Int) ≤ (at_ : Int) := by omega
  have b1 : (at_ : Int) < (n : Int) := by omega
  obtain ⟨bk, oo, hao, hsl, _, _⟩ := h2 (by intro e; rw [e] at hp; cases hp)
  subst hao
  obtain ⟨c0, c1, c2, c3, c4⟩ := hsl at_ p hp
  have wr1 : IntKind.i64.wrap ((at_ : Int) + 1) = (at_ : Int) + 1 := IntWalk.i64_in _ (by omega)
  obtain ⟨kd, pn, ps, st, f⟩ := p
  simp only at c0 c1 c2 c3 c4 hk hf
  subst hk
  have hk2 := (hk0.alloc (.cells #[.string ev.key, .string ev.typ, .int .i64 ev.n0, .int .i64 ev.n1, .int .i64 ev.n2, .int .i64 ev.n3, .string ev.text] 37 (0, 0))).alloc (.cells #[.int .i64 0, .string ⟨#[]⟩, .bool false] 110 (0, 0))
  have c0 := hk2.cell c0 (by simp)
  have c1 := hk2.cell c1 (by simp)
  have c2 := hk2.cell c2 (by simp)
  have c3 := hk2.cell c3 (by simp)
  have c4 := hk2.cell c4 (by simp)
  have HNm := Lib.hid hN
  have HLs := Lib.hid hL
  obtain ⟨aon, cpn, rfl, _, hn2⟩ := hN
  obtain ⟨aol, cpl, rfl, _, hl2⟩ := hL
  have HN2 := Lib.hid hn2
  have HL2 := Lib.hid hl2
  obtain ⟨q, hq⟩ : ∃ q, names.length = q := ⟨_, rfl⟩
  have hq2 : last.length = q := hsame.symm.trans hq
  rw [hq] at HNm hnl ⊢
  rw [hq2] at HLs ⊢
  have HQ := Lib.hid (And.intro hq hq2)
  clear hp hsl h2 hn hn2 hl2 hq hq2 hsame
  obtain ⟨G, hG⟩ : ∃ G : Nat → EvR, ∀ j, G j = if st.data.toList = [] then ev else pickM ev names last st j := ⟨_, fun _ => rfl⟩
  have HG := Lib.hid hG
  have HRes : valAgg (if st.data.toList = [] then evVal ev f else evVal (pickM ev names last st 0) f) = valAgg (evVal (G 0) f) := by
    rw [hG]
    split <;> rfl
  simp only at ⊢
  rw [HRes]
  obtain ⟨yv, hyv⟩ : ∃ yv, evVal (G 0) f = yv := ⟨_, rfl⟩
  rw [hyv]
  have HYv := Lib.hid hyv
  have HGQ : Hid (G q = ev) := Lib.hid (by
    rw [hG]
    split
    · rfl
    · rw [← HQ.out.1]; exact pick_end ev names last st)
  have HEm : Hid (st.data.toList = [] → ∀ j, G j = ev) := Lib.hid (fun h j => by rw [hG, if_pos h])
  have HStep : Hid (¬ st.data.toList = [] → ∀ (m : Nat) (y : ByteArray) (e : EvR), names[m]? = some y → last[m]? = some e → G m = if y.data.toList = st.data.toList then e else G (m + 1)) := Lib.hid (fun h m y e hy he => by rw [hG, hG, if_neg h, if_neg h]; exact pick_step hy he)
  obtain ⟨m5, rfl⟩ : ∃ m5 : Nat, f = (m5 : Int) := ⟨f.toNat, by omega⟩
  have hm5 : m5 ≤ 5 := by omega
  clear hG HRes HG hf hyv
  go_enter Tryz.func53, Tryz.ntmps53
  go_wp2_with fail
  obtain ⟨W4, hW4⟩ : ∃ W4, W4 = (((w.alloc (.cells #[.string ev.key, .string ev.typ, .int .i64 ev.n0, .int .i64 ev.n1, .int .i64 ev.n2, .int .i64 ev.n3, .string ev.text] 37 (0, 0))).alloc (.cells #[.int .i64 0, .string ⟨#[]⟩, .bool false] 110 (0, 0))).alloc (.cells #[.int .i64 3, .int .i64 pn, .string ps, .string st, .int .i64 (m5 : Int)] 58 (0, 0))).alloc (.cells #[.string ev.key, .string ev.typ, .int .i64 ev.n0, .int .i64 ev.n1, .int .i64 ev.n2, .int .i64 ev.n3, .string ev.text] 37 (0, 0)) := ⟨_, rfl⟩
  have hk4 : Keeps [] w W4 := by rw [hW4]; exact (hk2.alloc _).alloc _
  have hV : W4.heap[w.heap.size + 1]? = some (.cells #[.int .i64 0, .string ⟨#[]⟩, .bool false] 110 (0, 0)) := by rw [hW4]; exact alloc_old (alloc_old (heap_top (by simp)) _) _
  have hP : W4.heap[w.heap.size + 2]? = some (.cells #[.int .i64 3, .int .i64 pn, .string ps, .string st, .int .i64 (m5 : Int)] 58 (0, 0)) := by rw [hW4]; exact alloc_old (heap_top (by simp)) _
  have hF : W4.heap[w.heap.size + 3]? = some (.cells (evRow ev) 37 (0, 0)) := by rw [hW4]; exact heap_top (by simp)
  rw [← hW4]
  have HV := Lib.hid hV
  have HP := Lib.hid hP
  have HF := Lib.hid hF
  clear hW4 hV hP hF c0 c1 c2 c3 c4 hk2
  go_loopw [14] (fun i wr => ∃ j : Nat, j ≤ q ∧ i = .int .i64 ((j : Int) - 1) ∧ wr.heap[w.heap.size + 1]? = some (.cells #[.int .i64 0, .string ⟨#[]⟩, .bool false] 110 (0, 0)) ∧ wr.heap[w.heap.size + 1 + 1]? = some (.cells #[.int .i64 3, .int .i64 pn, .string ps, .string st, .int .i64 m5] 58 (0, 0)) ∧ wr.heap[w.heap.size + 1 + 1 + 1]? = some (.cells (evRow (G j)) 37 (0, 0)) ∧ Keeps [] w wr) (fun i _ => (intOf i + 1).toNat)
  case atStart =>
    refine ⟨q, Nat.le_refl _, rfl, HV.out, HP.out, ?_, hk4⟩
    rw [HGQ.out]
    exact HF.out
  case round =>
    clear HV HP HF hk4
    obtain ⟨j, hjq, rfl, hV, hP, hF, hk⟩ := hrel
    by_cases hx : st.data.toList = [] ∨ j = 0
    · have hGj : G j = G 0 := by
        rcases hx with h | rfl
        · rw [HEm.out h, HEm.out h]
        · rfl
      rw [hGj] at hF
      have HF := Lib.hid hF
      have HV := Lib.hid hV
      have HGet := fun w => Lib.hid (refGet_any (G 0) m5 hm5 w)
      have hx0 := hx
      rw [HYv.out] at HGet
      obtain ⟨g, hg⟩ : ∃ g, G 0 = g := ⟨_, rfl⟩
      have HF := HF.out
      rw [hg] at HGet HF
      obtain ⟨gk, gt, g0, g1, g2, g3, gx⟩ := g
      simp only [evRow] at HF HGet
      obtain ⟨e0, e1, e2, e3, e4, e5, e6⟩ := ev_block (e := ⟨gk, gt, g0, g1, g2, g3, gx⟩) HF
      simp only at e0 e1 e2 e3 e4 e5 e6
      have HF := Lib.hid HF
      obtain ⟨p0, p1, p2, p3, p4, _⟩ := part_block hP
      clear hx HStep HEm HGQ hGj HQ HNm HLs HN2 HL2 hg hF
      obtain ⟨yn, ys, yb⟩ := yv
      simp only [valAgg_eq] at HGet
      rcases hx0 with h | h
      · have d2 : st.toList.isEmpty = true := by rw [ByteArray.toList_eq, h]; rfl
        clear h
        go_wp2_with fail
        all_goals
          refine (HGet wr).out.mono ?_
          rintro e w2 ⟨rfl, hk2⟩
          have hV2 := hk2.heap HV.out (by simp)
          obtain ⟨v0, v1, v2, z0, z1, z2⟩ := val_block hV2
          go_wp2_with fail
          refine ret_row_val rfl (w.heap.size + 1) _ _ _ _ rfl (val_set3 hV2 _ _ _) Tryz.underlying110 rfl (by kernel_rfl) rfl ?_
          exact ⟨rfl, (((hk.then hk2).setCell (.inr (Nat.le_succ _)) _).setCell (.inr (Nat.le_succ _)) _).setCell (.inr (Nat.le_succ _)) _⟩
      · subst h
        have d2 : decide (((0 : Nat) : Int) - 1 ≥ 0) = false := rfl
        go_wp2_with fail
        refine (HGet wr).out.mono ?_
        rintro e w2 ⟨rfl, hk2⟩
        have hV2 := hk2.heap HV.out (by simp)
        obtain ⟨v0, v1, v2, z0, z1, z2⟩ := val_block hV2
        go_wp2_with fail
        refine ret_row_val rfl (w.heap.size + 1) _ _ _ _ rfl (val_set3 hV2 _ _ _) Tryz.underlying110 rfl (by kernel_rfl) rfl ?_
        exact ⟨rfl, (((hk.then hk2).setCell (.inr (Nat.le_succ _)) _).setCell (.inr (Nat.le_succ _)) _).setCell (.inr (Nat.le_succ _)) _⟩
    · obtain ⟨hne, hj0⟩ := not_or.1 hx
      obtain ⟨m, hjm⟩ : ∃ m, j = m + 1 := ⟨j - 1, by omega⟩
      have e1 : (j : Int) - 1 = (m : Int) := by omega
      simp only [e1]
      rw [hjm] at hF hjq
      obtain ⟨y, hy⟩ : ∃ y, names[m]? = some y := ⟨names[m]'(by rw [HQ.out.1]; omega), List.getElem?_eq_getElem _⟩
      obtain ⟨x, hx2⟩ : ∃ x, last[m]? = some x := ⟨last[m]'(by rw [HQ.out.2]; omega), List.getElem?_eq_getElem _⟩
      have HS := Lib.hid (HStep.out hne m y x hy hx2)
      obtain ⟨bn, on, rfl, hsn, hcn, _⟩ := HN2.out (by intro e; rw [e] at hy; cases hy)
      obtain ⟨bl, ol, rfl, hsl, hcl, _⟩ := HL2.out (by intro e; rw [e] at hx2; cases hx2)
      have y0 := hk.cell (hsn m y hy) (by simp)
      obtain ⟨x0, x1, x2, x3, x4, x5, x6⟩ := hsl m x hx2
      have x0 := hk.cell x0 (by simp)
      have x1 := hk.cell x1 (by simp)
      have x2 := hk.cell x2 (by simp)
      have x3 := hk.cell x3 (by simp)
      have x4 := hk.cell x4 (by simp)
      have x5 := hk.cell x5 (by simp)
      have x6 := hk.cell x6 (by simp)
      have hne2 : st.toList.isEmpty = false := by
        rw [ByteArray.toList_eq]
        cases h : st.data.toList with
        | nil => exact absurd h hne
        | cons _ _ => rfl
      have d1 : decide ((m : Int) ≥ 0) = true := by simp
      have b0 : (0 : Int) ≤ (m : Int) := by omega
      have b1 : (m : Int) < (q : Int) := by omega
      have wr2 : IntKind.i64.wrap ((m : Int) - 1) = (m : Int) - 1 := IntWalk.i64_in _ (by omega)
      obtain ⟨p0, p1, p2, p3, p4, _⟩ := part_block hP
      have HF := Lib.hid hF
      have HV := Lib.hid hV
      have HP := Lib.hid hP
      obtain ⟨xk, xt, xn0, xn1, xn2, xn3, xx⟩ := x
      simp only at x0 x1 x2 x3 x4 x5 x6
      clear hx hsn hsl hy hx2 hP hV hF hcn hcl
      go_wp2_with fail
      repeat (go_quiet (fail); try go_wp2_with (refine wpList_store_row (by rfl) _ _ _ (by rfl) (w.heap.size + 1 + 1 + 1) #[.string xk, .string xt, .int .i64 xn0, .int .i64 xn1, .int .i64 xn2, .int .i64 xn3, .string xx] (by rfl) (by rfl) 37 _ (((Keeps.refl [] wr).drewN _).heap HF.out (by simp)) (by kernel_rfl) (by rfl) (by simp [Value.oneCell']) ?_))
      · have hy : y.data.toList = st.data.toList := by
          rename_i hh
          simpa [bytes_eq] using hh
        have hG := HS.out
        rw [if_pos hy] at hG
        have hFd := ((Keeps.refl [] wr).drewN nq).heap HF.out (by simp)
        have hkR := ((Keeps.refl [w.heap.size + 1 + 1 + 1] wr).drewN nq).setRow (g := w.heap.size + 1 + 1 + 1) (.inl (by simp)) #[.string xk, .string xt, .int .i64 xn0, .int .i64 xn1, .int .i64 xn2, .int .i64 xn3, .string xx]
        refine ⟨⟨m, by omega, rfl, hkR.heap HV.out (by simp), hkR.heap HP.out (by simp), ?_, (hk.drewN nq).setRow (.inr (by omega)) _⟩, by simp only [intOf]; omega⟩
        rw [hG]
        exact setRow_heap _ _ _ _ _ _ hFd
      · have hy : ¬ y.data.toList = st.data.toList := by
          rename_i hh
          simpa [bytes_eq] using hh
        have hG := HS.out
        rw [if_neg hy] at hG
        have hkR := (Keeps.refl [] wr).drewN nq
        refine ⟨⟨m, by omega, rfl, hkR.heap HV.out (by simp), hkR.heap HP.out (by simp), ?_, hk.drewN nq⟩, by simp only [intOf]; omega⟩
        rw [hG]
        exact hkR.heap HF.out (by simp)

end Go.Proofs.YtefcmijobbgpbaaGreatDoor

namespace Go.Proofs.YtefcmijobbgpbaaGreatDoor
open Go.RowKit

def RckIH (x : List PartR) (ev : EvR) (names : List ByteArray) (last : List EvR) (t : Ex) : Prop := ∀ (at_ : Nat) (v vn vl : Value) (w : World), (∃ r, x.drop at_ = t.parts ++ r) → ArgPart w v x → ArgStr w vn names → ArgEv w vl last →
  Calls Tryz.prog 53 #[v, .int .i64 (at_ : Int), .agg #[.string ev.key, .string ev.typ, .int .i64 ev.n0, .int .i64 ev.n1, .int .i64 ev.n2, .int .i64 ev.n3, .string ev.text], vn, vl] w fun e w' => e = .returned (.tuple #[valAgg (t.rval (rGet ev names last)), .int .i64 ((at_ + t.parts.length : Nat) : Int)]) ∧ Keeps [] w w'

theorem dropHead {x : List PartR} {at_ : Nat} {p : PartR} {l : List PartR} (h : x.drop at_ = p :: l) : x[at_]? = some p ∧ x.drop (at_ + 1) = l ∧ at_ < x.length := by
  have hlt : at_ < x.length := by
    rcases Nat.lt_or_ge at_ x.length with h2 | h2
    · exact h2
    · rw [List.drop_eq_nil_of_le h2] at h; cases h
  rw [List.drop_eq_getElem_cons hlt] at h
  obtain ⟨h1, h2⟩ := List.cons.inj h
  exact ⟨by rw [List.getElem?_eq_getElem hlt, h1], h2, hlt⟩

set_option maxHeartbeats 8000000 in
set_option maxRecDepth 100000 in
theorem rck_neg (x : List PartR) (at_ : Nat) (v vn vl : Value) (ev : EvR) (names : List ByteArray) (last : List EvR) (w : World) (hxl : x.length ≤ 200) (hA : ArgPart w v x) (hN : ArgStr w vn names) (hL : ArgEv w vl last) (p : PartR) (a : Ex) (hk13 : p.kind = 13) (IH : RckIH x ev names last a) (hd : ∃ r, x.drop at_ = (Ex.neg p a).parts ++ r) :
    Calls Tryz.prog 53 #[v, .int .i64 (at_ : Int), .agg #[.string ev.key, .string ev.typ, .int .i64 ev.n0, .int .i64 ev.n1, .int .i64 ev.n2, .int .i64 ev.n3, .string ev.text], vn, vl] w fun e w' => e = .returned (.tuple #[valAgg ((Ex.neg p a).rval (rGet ev names last)), .int .i64 ((at_ + (Ex.neg p a).parts.length : Nat) : Int)]) ∧ Keeps [] w w' := by
  have hk0 := Keeps.refl [] w
  obtain ⟨r, hd⟩ := hd
  simp only [Ex.parts, List.cons_append] at hd
  obtain ⟨hp, hdr, hlt⟩ := dropHead hd
  have HI := fun w hA hN hL => Lib.hid (IH (at_ + 1) v vn vl w ⟨r, hdr⟩ hA hN hL)
  have HA := Lib.hid hA
  have HN := Lib.hid hN
  have HL := Lib.hid hL
  obtain ⟨ao, cap, rfl, _, h2⟩ := hA
  obtain ⟨n, hn⟩ : ∃ n, x.length = n := ⟨_, rfl⟩
  rw [hn] at hlt hxl HI HA ⊢
  have b0 : (0 : Int) ≤ (at_ : Int) := by omega
  have b1 : (at_ : Int) < (n : Int) := by omega
  obtain ⟨bk, oo, hao, hsl, _, _⟩ := h2 (by intro e; rw [e] at hp; cases hp)
  subst hao
  obtain ⟨c0, c1, c2, c3, c4⟩ := hsl at_ p hp
  have wr1 : IntKind.i64.wrap ((at_ : Int) + 1) = (at_ : Int) + 1 := IntWalk.i64_in _ (by omega)
  have hk2 := (hk0.alloc (.cells #[.string ev.key, .string ev.typ, .int .i64 ev.n0, .int .i64 ev.n1, .int .i64 ev.n2, .int .i64 ev.n3, .string ev.text] 37 (0, 0))).alloc (.cells #[.int .i64 0, .string ⟨#[]⟩, .bool false] 110 (0, 0))
  have c0 := hk2.cell c0 (by simp)
  have c1 := hk2.cell c1 (by simp)
  have c2 := hk2.cell c2 (by simp)
  have c3 := hk2.cell c3 (by simp)
  have c4 := hk2.cell c4 (by simp)
  have ec : ((at_ + 1 : Nat) : Int) = (at_ : Int) + 1 := by omega
  have e4 : ((at_ + (Ex.neg p a).parts.length : Nat) : Int) = ((at_ + 1 + a.parts.length : Nat) : Int) := by simp only [Ex.parts, List.length_cons]; omega
  rw [ec] at HI
  rw [e4]
  have HT : Hid (valAgg ((Ex.neg p a).rval (rGet ev names last)) = .agg #[.int .i64 0, .string ⟨#[]⟩, .bool (!(a.rval (rGet ev names last)).ok)]) := Lib.hid rfl
  rw [HT.out]
  simp only [valAgg_eq] at HI
  generalize (a.rval (rGet ev names last)).n = an at *
  generalize (a.rval (rGet ev names last)).s = sa at *
  generalize (a.rval (rGet ev names last)).ok = ab at *
  generalize a.parts.length = na at *
  obtain ⟨kd, pn, ps, st, f⟩ := p
  simp only at c0 c1 c2 c3 c4 hk13
  subst hk13
  have hk3 := hk2.alloc (.cells #[.int .i64 13, .int .i64 pn, .string ps, .string st, .int .i64 f] 58 (0, 0))
  have HBV : Hid ((((w.alloc (.cells #[.string ev.key, .string ev.typ, .int .i64 ev.n0, .int .i64 ev.n1, .int .i64 ev.n2, .int .i64 ev.n3, .string ev.text] 37 (0, 0))).alloc (.cells #[.int .i64 0, .string ⟨#[]⟩, .bool false] 110 (0, 0))).alloc (.cells #[.int .i64 13, .int .i64 pn, .string ps, .string st, .int .i64 f] 58 (0, 0))).heap[w.heap.size + 1]? = some (.cells #[.int .i64 0, .string ⟨#[]⟩, .bool false] 110 (0, 0))) := Lib.hid (alloc_old (heap_top (by simp)) _)
  have HBT : Hid ((((w.alloc (.cells #[.string ev.key, .string ev.typ, .int .i64 ev.n0, .int .i64 ev.n1, .int .i64 ev.n2, .int .i64 ev.n3, .string ev.text] 37 (0, 0))).alloc (.cells #[.int .i64 0, .string ⟨#[]⟩, .bool false] 110 (0, 0))).alloc (.cells #[.int .i64 13, .int .i64 pn, .string ps, .string st, .int .i64 f] 58 (0, 0))).heap[w.heap.size + 1 + 1]? = some (.cells #[.int .i64 13, .int .i64 pn, .string ps, .string st, .int .i64 f] 58 (0, 0))) := Lib.hid (heap_top (by simp))
  clear hp hd hdr hsl h2 hn IH ec e4 HT
  go_enter Tryz.func53, Tryz.ntmps53
  go_wp2_with fail
  refine (HI _ (HA.out.keep hk3) (HN.out.keep hk3) (HL.out.keep hk3)).out.mono ?_
  rintro e w2 ⟨rfl, hk4⟩
  have hV := alloc_old (hk4.heap HBV.out (by simp)) (.cells #[.int .i64 an, .string sa, .bool ab] 110 (0, 0))
  have hP := alloc_old (hk4.heap HBT.out (by simp)) (.cells #[.int .i64 an, .string sa, .bool ab] 110 (0, 0))
  have hX := heap_alloc_new w2 (.cells #[.int .i64 an, .string sa, .bool ab] 110 (0, 0))
  obtain ⟨p0, p1, p2, p3, p4, _⟩ := part_block hP
  obtain ⟨v0, v1, v2, z0, z1, z2⟩ := val_block hV
  obtain ⟨x0, x1, x2, _⟩ := val_block hX
  go_wp2_with fail
  refine ret_row_val rfl (w.heap.size + 1) _ _ _ _ rfl (val_set3 hV _ _ _) Tryz.underlying110 rfl (by kernel_rfl) rfl ?_
  exact ⟨rfl, ((((hk3.then hk4).alloc _).setCell (.inr (Nat.le_succ _)) _).setCell (.inr (Nat.le_succ _)) _).setCell (.inr (Nat.le_succ _)) _⟩

set_option maxHeartbeats 8000000 in
set_option maxRecDepth 100000 in
theorem rck_bin (x : List PartR) (at_ : Nat) (v vn vl : Value) (ev : EvR) (names : List ByteArray) (last : List EvR) (w : World) (hxl : x.length ≤ 200) (hA : ArgPart w v x) (hN : ArgStr w vn names) (hL : ArgEv w vl last) (p : PartR) (a b : Ex) (hk12 : 4 ≤ p.kind ∧ p.kind ≤ 12) (IH : RckIH x ev names last a) (IH2 : RckIH x ev names last b) (hd : ∃ r, x.drop at_ = (Ex.bin p a b).parts ++ r) :
    Calls Tryz.prog 53 #[v, .int .i64 (at_ : Int), .agg #[.string ev.key, .string ev.typ, .int .i64 ev.n0, .int .i64 ev.n1, .int .i64 ev.n2, .int .i64 ev.n3, .string ev.text], vn, vl] w fun e w' => e = .returned (.tuple #[valAgg ((Ex.bin p a b).rval (rGet ev names last)), .int .i64 ((at_ + (Ex.bin p a b).parts.length : Nat) : Int)]) ∧ Keeps [] w w' := by
  have hk0 := Keeps.refl [] w
  obtain ⟨r, hd⟩ := hd
  simp only [Ex.parts, List.cons_append, List.append_assoc] at hd
  obtain ⟨hp, hdr, hlt⟩ := dropHead hd
  have hdr2 : x.drop (at_ + 1 + a.parts.length) = b.parts ++ r := by
    rw [← List.drop_drop, hdr, List.drop_append_of_le_length (Nat.le_refl _), List.drop_length, List.nil_append]
  have HI := fun w hA hN hL => Lib.hid (IH (at_ + 1) v vn vl w ⟨_, hdr⟩ hA hN hL)
  have HI2 := fun w hA hN hL => Lib.hid (IH2 (at_ + 1 + a.parts.length) v vn vl w ⟨_, hdr2⟩ hA hN hL)
  have HA := Lib.hid hA
  have HN := Lib.hid hN
  have HL := Lib.hid hL
  obtain ⟨ao, cap, rfl, _, h2⟩ := hA
  obtain ⟨n, hn⟩ : ∃ n, x.length = n := ⟨_, rfl⟩
  rw [hn] at hlt hxl HI HI2 HA ⊢
  have b0 : (0 : Int) ≤ (at_ : Int) := by omega
  have b1 : (at_ : Int) < (n : Int) := by omega
  obtain ⟨bk, oo, hao, hsl, _, _⟩ := h2 (by intro e; rw [e] at hp; cases hp)
  subst hao
  obtain ⟨c0, c1, c2, c3, c4⟩ := hsl at_ p hp
  have wr1 : IntKind.i64.wrap ((at_ : Int) + 1) = (at_ : Int) + 1 := IntWalk.i64_in _ (by omega)
  have hk2 := (hk0.alloc (.cells #[.string ev.key, .string ev.typ, .int .i64 ev.n0, .int .i64 ev.n1, .int .i64 ev.n2, .int .i64 ev.n3, .string ev.text] 37 (0, 0))).alloc (.cells #[.int .i64 0, .string ⟨#[]⟩, .bool false] 110 (0, 0))
  have c0 := hk2.cell c0 (by simp)
  have c1 := hk2.cell c1 (by simp)
  have c2 := hk2.cell c2 (by simp)
  have c3 := hk2.cell c3 (by simp)
  have c4 := hk2.cell c4 (by simp)
  have ec : ((at_ + 1 : Nat) : Int) = (at_ : Int) + 1 := by omega
  have e4 : ((at_ + (Ex.bin p a b).parts.length : Nat) : Int) = ((at_ + 1 + a.parts.length + b.parts.length : Nat) : Int) := by simp only [Ex.parts, List.length_cons, List.length_append]; omega
  rw [ec] at HI
  rw [e4]
  have HT : Hid (valAgg ((Ex.bin p a b).rval (rGet ev names last)) = valAgg (refTwo p.kind (a.rval (rGet ev names last)) (b.rval (rGet ev names last)))) := Lib.hid rfl
  rw [HT.out]
  have H2 := fun w => Lib.hid (refTwo_any p.kind hk12 (a.rval (rGet ev names last)) (b.rval (rGet ev names last)) w)
  generalize refTwo p.kind (a.rval (rGet ev names last)) (b.rval (rGet ev names last)) = rr at *
  simp only [valAgg_eq] at HI HI2 H2 ⊢
  generalize (a.rval (rGet ev names last)).n = an at *
  generalize (a.rval (rGet ev names last)).s = sa at *
  generalize (a.rval (rGet ev names last)).ok = ab at *
  generalize (b.rval (rGet ev names last)).n = bn at *
  generalize (b.rval (rGet ev names last)).s = sb at *
  generalize (b.rval (rGet ev names last)).ok = bb at *
  generalize rr.n = rn at *
  generalize rr.s = rs at *
  generalize rr.ok = rb at *
  generalize a.parts.length = na at *
  generalize b.parts.length = nb at *
  obtain ⟨kd, pn, ps, st, f⟩ := p
  simp only at c0 c1 c2 c3 c4 hk12 H2
  have dn : (kd == 13) = false := by rw [beq_eq_false_iff_ne]; omega
  have d3 : (kd == 1) = false := by rw [beq_eq_false_iff_ne]; omega
  have d4 : (kd == 2) = false := by rw [beq_eq_false_iff_ne]; omega
  have d5 : (kd == 3) = false := by rw [beq_eq_false_iff_ne]; omega
  have hk3 := hk2.alloc (.cells #[.int .i64 kd, .int .i64 pn, .string ps, .string st, .int .i64 f] 58 (0, 0))
  have HBE := Lib.hid (alloc_old (alloc_old (heap_alloc_new w (.cells #[.string ev.key, .string ev.typ, .int .i64 ev.n0, .int .i64 ev.n1, .int .i64 ev.n2, .int .i64 ev.n3, .string ev.text] 37 (0, 0))) (.cells #[.int .i64 0, .string ⟨#[]⟩, .bool false] 110 (0, 0))) (.cells #[.int .i64 kd, .int .i64 pn, .string ps, .string st, .int .i64 f] 58 (0, 0)))
  have HBV : Hid ((((w.alloc (.cells #[.string ev.key, .string ev.typ, .int .i64 ev.n0, .int .i64 ev.n1, .int .i64 ev.n2, .int .i64 ev.n3, .string ev.text] 37 (0, 0))).alloc (.cells #[.int .i64 0, .string ⟨#[]⟩, .bool false] 110 (0, 0))).alloc (.cells #[.int .i64 kd, .int .i64 pn, .string ps, .string st, .int .i64 f] 58 (0, 0))).heap[w.heap.size + 1]? = some (.cells #[.int .i64 0, .string ⟨#[]⟩, .bool false] 110 (0, 0))) := Lib.hid (alloc_old (heap_top (by simp)) _)
  have HBT : Hid ((((w.alloc (.cells #[.string ev.key, .string ev.typ, .int .i64 ev.n0, .int .i64 ev.n1, .int .i64 ev.n2, .int .i64 ev.n3, .string ev.text] 37 (0, 0))).alloc (.cells #[.int .i64 0, .string ⟨#[]⟩, .bool false] 110 (0, 0))).alloc (.cells #[.int .i64 kd, .int .i64 pn, .string ps, .string st, .int .i64 f] 58 (0, 0))).heap[w.heap.size + 1 + 1]? = some (.cells #[.int .i64 kd, .int .i64 pn, .string ps, .string st, .int .i64 f] 58 (0, 0))) := Lib.hid (heap_top (by simp))
  clear hp hd hdr hdr2 hsl h2 hn IH IH2 ec e4 HT hk12
  go_enter Tryz.func53, Tryz.ntmps53
  go_wp2_with fail
  refine (HI _ (HA.out.keep hk3) (HN.out.keep hk3) (HL.out.keep hk3)).out.mono ?_
  rintro e w2 ⟨rfl, hk4⟩
  have hV := alloc_old (hk4.heap HBV.out (by simp)) (.cells #[.int .i64 an, .string sa, .bool ab] 110 (0, 0))
  have hP := alloc_old (hk4.heap HBT.out (by simp)) (.cells #[.int .i64 an, .string sa, .bool ab] 110 (0, 0))
  have hX := heap_alloc_new w2 (.cells #[.int .i64 an, .string sa, .bool ab] 110 (0, 0))
  obtain ⟨p0, p1, p2, p3, p4, _⟩ := part_block hP
  obtain ⟨v0, v1, v2, z0, z1, z2⟩ := val_block hV
  obtain ⟨x0, x1, x2, _⟩ := val_block hX
  have hE := (hk4.heap HBE.out (by simp))
  have hE := alloc_old hE (.cells #[.int .i64 an, .string sa, .bool ab] 110 (0, 0))
  have hk5 := (hk3.then hk4).alloc (.cells #[.int .i64 an, .string sa, .bool ab] 110 (0, 0))
  have HX := Lib.hid hX
  have HV := Lib.hid hV
  have HP := Lib.hid hP
  obtain ⟨e0, e1, e2, e3, e4, e5, e6⟩ := ev_block (e := ev) hE
  clear hV hP hX hE HI HBV HBT HBE v0 v1 v2 z0 z1 z2 x0 x1 x2
  go_wp2_with fail
  refine (HI2 _ (HA.out.keep hk5) (HN.out.keep hk5) (HL.out.keep hk5)).out.mono ?_
  rintro e w3 ⟨rfl, hk6⟩
  have hV := alloc_old (hk6.heap HV.out (by simp)) (.cells #[.int .i64 bn, .string sb, .bool bb] 110 (0, 0))
  have hP := alloc_old (hk6.heap HP.out (by simp)) (.cells #[.int .i64 bn, .string sb, .bool bb] 110 (0, 0))
  have hX := alloc_old (hk6.heap HX.out (by simp)) (.cells #[.int .i64 bn, .string sb, .bool bb] 110 (0, 0))
  have hY := heap_alloc_new w3 (.cells #[.int .i64 bn, .string sb, .bool bb] 110 (0, 0))
  obtain ⟨p0, p1, p2, p3, p4, _⟩ := part_block hP
  obtain ⟨x0, x1, x2, _⟩ := val_block hX
  obtain ⟨y0, y1, y2, _⟩ := val_block hY
  have hk7 := (hk5.then hk6).alloc (.cells #[.int .i64 bn, .string sb, .bool bb] 110 (0, 0))
  have HV := Lib.hid hV
  clear hP hX hY hV HI2
  go_wp2_with fail
  refine (H2 _).out.mono ?_
  rintro e w4 ⟨rfl, hk8⟩
  have hV := hk8.heap HV.out (by simp)
  obtain ⟨v0, v1, v2, z0, z1, z2⟩ := val_block hV
  go_wp2_with fail
  refine ret_row_val rfl (w.heap.size + 1) _ _ _ _ rfl (val_set3 hV _ _ _) Tryz.underlying110 rfl (by kernel_rfl) rfl ?_
  exact ⟨rfl, (((hk7.then hk8).setCell (.inr (Nat.le_succ _)) _).setCell (.inr (Nat.le_succ _)) _).setCell (.inr (Nat.le_succ _)) _⟩

theorem rck_any (x : List PartR) (ev : EvR) (names : List ByteArray) (last : List EvR) (hxl : x.length ≤ 200) (hsame : names.length = last.length) (hnl : names.length ≤ 9000000000000) : ∀ (t : Ex), t.good → t.well → RckIH x ev names last t := by
  intro t
  induction t with
  | leaf p =>
    rintro hg hw at_ v vn vl w ⟨r, hd⟩ hA hN hL
    obtain ⟨hp, _, _⟩ := dropHead hd
    have hm := hw.1
    have h3 := hw.2
    have hb := isM_bad_kind hm
    have hc : p.kind = 1 ∨ p.kind = 2 ∨ p.kind = 3 := by omega
    have e1 : ((at_ + (Ex.leaf p).parts.length : Nat) : Int) = (at_ : Int) + 1 := by simp [Ex.parts]
    rw [e1]
    rcases hc with h | h | h
    · exact reck_lit x at_ v vn vl ev w hxl hA p hp (.inl h) _
    · exact reck_lit x at_ v vn vl ev w hxl hA p hp (.inr h) _
    · have hf : 0 ≤ p.field ∧ p.field ≤ 5 := by
        unfold isM at hm
        rw [if_neg (by omega), if_neg (by omega), if_pos h] at hm
        simp only [Bool.and_eq_true, decide_eq_true_eq] at hm
        exact ⟨hm.1.1.2, hm.1.2⟩
      refine (reck_field x at_ v vn vl ev names last w hxl hA hN hL hsame hnl p hp h hf).mono ?_
      rintro e w' ⟨rfl, hk⟩
      refine ⟨?_, hk⟩
      have : (Ex.leaf p).rval (rGet ev names last) = rGet ev names last p.stage p.field := by
        rw [Ex.rval, if_neg (by omega), if_neg (by omega)]
      rw [this]
      rfl
  | neg p a iha =>
    rintro hg hw at_ v vn vl w hd hA hN hL
    exact rck_neg x at_ v vn vl ev names last w hxl hA hN hL p a hw.2.1 (iha (Ex.good_neg hg).2 hw.2.2) hd
  | bin p a b iha ihb =>
    rintro hg hw at_ v vn vl w hd hA hN hL
    exact rck_bin x at_ v vn vl ev names last w hxl hA hN hL p a b hw.2.1 (iha (Ex.good_bin hg).2.1 hw.2.2.1) (ihb (Ex.good_bin hg).2.2 hw.2.2.2) hd

end Go.Proofs.YtefcmijobbgpbaaGreatDoor

namespace Go.Proofs.YtefcmijobbgpbaaGreatDoor
open Go.RowKit

set_option maxHeartbeats 4000000 in
set_option maxRecDepth 100000 in
theorem refValue_any (l : List PartR) (t : Ex) (hw : wholeM l = some t) (v vn vl : Value) (ev : EvR) (names : List ByteArray) (last : List EvR) (w : World) (hA : ArgPart w v l) (hN : ArgStr w vn names) (hL : ArgEv w vl last) (hsame : names.length = last.length) (hnl : names.length ≤ 9000000000000) :
    Calls Tryz.prog 36 #[v, .agg #[.string ev.key, .string ev.typ, .int .i64 ev.n0, .int .i64 ev.n1, .int .i64 ev.n2, .int .i64 ev.n3, .string ev.text], vn, vl] w fun e w' => e = .returned (.bool (t.rval (rGet ev names last)).ok) ∧ Keeps [] w w' := by
  have hk1 := (Keeps.refl [] w).alloc (.cells #[.string ev.key, .string ev.typ, .int .i64 ev.n0, .int .i64 ev.n1, .int .i64 ev.n2, .int .i64 ev.n3, .string ev.text] 37 (0, 0))
  have hpl := wholeM_parts hw
  have HR := fun w hA hN hL => Lib.hid (rck_any l ev names last hpl.2 hsame hnl t (wholeM_good hw) (growM_well (wholeM_grow hw)).1 0 v vn vl w ⟨[], by rw [List.drop_zero, List.append_nil]; exact hpl.1⟩ hA hN hL)
  have HA := Lib.hid hA
  have HN := Lib.hid hN
  have HL := Lib.hid hL
  simp only [valAgg_eq] at HR
  generalize (t.rval (rGet ev names last)).n = an at *
  generalize (t.rval (rGet ev names last)).s = sa at *
  generalize (t.rval (rGet ev names last)).ok = ab at *
  clear hA hN hL hw hpl
  go_enter Tryz.func36, Tryz.ntmps36
  go_wp2_with (go_at_call 53; refine (HR _ (HA.out.keep hk1) (HN.out.keep hk1) (HL.out.keep hk1)).out.mono ?_; rintro e w2 ⟨rfl, hk2⟩)
  go_returns
  exact ⟨rfl, (hk1.then hk2).alloc _⟩

set_option maxHeartbeats 8000000 in
set_option maxRecDepth 100000 in
theorem refHolds_any (l : List PartR) (ev : EvR) (names : List ByteArray) (last : List EvR) (v vn vl : Value) (w : World) (hok : ∀ x ∈ l, x.ok) (hA : ArgPart w v l) (hN : ArgStr w vn names) (hL : ArgEv w vl last) (hxl : l.length ≤ 9223372036854775807) (hnl : names.length ≤ 9000000000000) (hll : last.length ≤ 9000000000000) :
    Calls Tryz.prog 20 #[v, .agg #[.string ev.key, .string ev.typ, .int .i64 ev.n0, .int .i64 ev.n1, .int .i64 ev.n2, .int .i64 ev.n3, .string ev.text], vn, vl] w fun e w' => e = .returned (.tuple #[.bool (holdsB l ev names last), .int .i64 (holdsC l names last)]) ∧ Keeps [] w w' := by
  have hk1 := (Keeps.refl [] w).alloc (.cells #[.string ev.key, .string ev.typ, .int .i64 ev.n0, .int .i64 ev.n1, .int .i64 ev.n2, .int .i64 ev.n3, .string ev.text] 37 (0, 0))
  have HC := Lib.hid (refCheck_any l v _ hok (hA.keep hk1) hxl)
  have HEB := Lib.hid (heap_alloc_new w (.cells #[.string ev.key, .string ev.typ, .int .i64 ev.n0, .int .i64 ev.n1, .int .i64 ev.n2, .int .i64 ev.n3, .string ev.text] 37 (0, 0)))
  have HA := Lib.hid hA
  have HNm := Lib.hid hN
  have HLs := Lib.hid hL
  obtain ⟨ao, cap, rfl, _, h2⟩ := hA
  obtain ⟨aon, cpn, rfl, _, hn2⟩ := hN
  obtain ⟨aol, cpl, rfl, _, _⟩ := hL
  have H2 := Lib.hid h2
  have HN2 := Lib.hid hn2
  clear h2 hn2
  obtain ⟨n, hn⟩ : ∃ n, l.length = n := ⟨_, rfl⟩
  obtain ⟨q1, hq1⟩ : ∃ q1, names.length = q1 := ⟨_, rfl⟩
  obtain ⟨q2, hq2⟩ : ∃ q2, last.length = q2 := ⟨_, rfl⟩
  have HQ := Lib.hid (And.intro hn (And.intro hq1 hq2))
  by_cases htr : checkE l = 0 ∧ checkK l = 3
  · rw [htr.1, htr.2] at HC
    obtain ⟨t, hw, hk⟩ : ∃ t, wholeM l = some t ∧ t.kind = 3 := by
      obtain ⟨h1, h2⟩ := htr
      unfold checkE at h1
      unfold checkK at h2
      cases hw : wholeM l with
      | none => rw [hw] at h1; cases h1
      | some t => rw [hw] at h2; exact ⟨t, rfl, h2⟩
    have hlen := (wholeM_parts hw).2
    have hB1 : holdsC l names last = if names.length = last.length ∧ missM names (stagesM l) = false then 0 else 5 := by
      unfold holdsC; rw [hw]; simp only [hk, if_true]
    have hB2 : ¬ (names.length = last.length ∧ missM names (stagesM l) = false) → holdsB l ev names last = false := by
      intro hne; unfold holdsB; rw [hw]; simp only; rw [if_neg (fun h => hne h.2)]
    have hB3 : names.length = last.length → toldM names l = true → (t.rval (rGet ev names last)).ok = holdsB l ev names last := fun h1 h2 => rval_holds ev hw hk h1 h2
    have HV := fun w (h1 : names.length = last.length) hA hN hL => Lib.hid (refValue_any l t hw (.slice ao l.length cap) (.slice aon names.length cpn) (.slice aol last.length cpl) ev names last w hA hN hL h1 hnl)
    rw [hn] at HC HA hlen hxl HV ⊢
    rw [hq1] at HNm hnl hB1 hB2 hB3 HV ⊢
    rw [hq2] at HLs hll hB1 hB2 hB3 HV ⊢
    by_cases hqq : q1 = q2
    · subst hqq
      have hB1 : holdsC l names last = if toldM names l = true then 0 else 5 := by
        rw [hB1, told_miss]; simp
      have hB2 : toldM names l = false → holdsB l ev names last = false := fun h => hB2 (fun h2 => by rw [told_miss, h2.2] at h; cases h)
      have hB3 : toldM names l = true → (t.rval (rGet ev names last)).ok = holdsB l ev names last := hB3 rfl
      have HB := Lib.hid (And.intro hB1 (And.intro hB2 hB3))
      have HV2 := fun w => HV w rfl
      clear HV
      generalize holdsC l names last = hc at *
      generalize holdsB l ev names last = hb at *
      generalize (t.rval (rGet ev names last)).ok = tb at *
      have d5 : ((q1 : Int) != (q1 : Int)) = false := by simp
      clear hw hk htr hB1 hB2 hB3 hn hq1 hq2
      go_enter Tryz.func20, Tryz.ntmps20
      go_wp2_with (go_at_call 10; refine HC.out.mono ?_; rintro e w2 ⟨rfl, hk2⟩)
      go_loopw [12] (fun i wr => ∃ k : Nat, k ≤ n ∧ i = .int .i64 k ∧ Hid (toldM names (l.take k) = true) ∧ Keeps [] (w.alloc (.cells #[.string ev.key, .string ev.typ, .int .i64 ev.n0, .int .i64 ev.n1, .int .i64 ev.n2, .int .i64 ev.n3, .string ev.text] 37 (0, 0))) wr) (fun i _ => n - (intOf i).toNat)
      case atStart => exact ⟨0, Nat.zero_le _, rfl, Lib.hid rfl, hk2⟩
      case round =>
        clear hk2 HC
        obtain ⟨k, hkn, rfl, hst, hk⟩ := hrel
        by_cases hlt : k < n
        · have d1 : decide ((k : Int) < (n : Int)) = true := by simp; omega
          obtain ⟨p, hp⟩ : ∃ p, l[k]? = some p := ⟨l[k]'(by rw [HQ.out.1]; omega), List.getElem?_eq_getElem _⟩
          obtain ⟨bk, o, hao, hsl, hcl, hcr⟩ := H2.out (by intro e; rw [e] at hp; cases hp)
          subst hao
          rw [HQ.out.1] at hcl
          obtain ⟨_, _, _, c3, _⟩ := hsl k p hp
          have c3 := hk.cell (hk1.cell c3 (by simp)) (by simp)
          have b0 : (0 : Int) ≤ (k : Int) := by omega
          have b1 : (k : Int) < (n : Int) := by omega
          have HTP := Lib.hid (told_parts (names := names) hp)
          obtain ⟨kd, pn, ps, st, f⟩ := p
          simp only at c3 HTP
          have HC3 := Lib.hid c3
          have HPN : Hid (toldM names l = true → toldOne names st = true) := Lib.hid (fun h => List.all_eq_true.1 h _ (List.mem_of_getElem? hp))
          clear hsl hp
          have hemp : st.toList.isEmpty = toldOne (names.take 0) st := by
            unfold toldOne
            rw [ByteArray.toList_eq, List.take_zero, List.any_nil, Bool.or_false]
            cases st.data.toList <;> rfl
          have HEM := Lib.hid hemp
          clear hemp
          go_wp2_with fail
          go_loopw [13, 14] (fun kv i wq => ∃ j : Nat, j ≤ q1 ∧ i = .int .i64 j ∧ kv = .bool (toldOne (names.take j) st) ∧ Keeps [] wr wq) (fun _ i _ => q1 - (intOf i).toNat)
          case atStart => exact ⟨0, Nat.zero_le _, rfl, congrArg Value.bool HEM.out, Keeps.refl [] wr⟩
          case round =>
            obtain ⟨W1, rfl⟩ : ∃ W1, W1 = wr := ⟨_, rfl⟩
            obtain ⟨j, hjq, rfl, rfl, hq⟩ := hrel
            by_cases hlt2 : j < q1
            · have d2 : decide ((j : Int) < (q1 : Int)) = true := by simp; omega
              have b2 : (0 : Int) ≤ (j : Int) := by omega
              have b3 : (j : Int) < (q1 : Int) := by omega
              obtain ⟨y, hy⟩ : ∃ y, names[j]? = some y := ⟨names[j]'(by rw [HQ.out.2.1]; omega), List.getElem?_eq_getElem _⟩
              obtain ⟨bs, os, haoS, hslS, hcs, _⟩ := HN2.out (by intro e; rw [e] at hy; cases hy)
              subst haoS
              have y0 := hq.cell (hk.cell (hk1.cell (hslS j y hy) (by simp)) (by simp)) (by simp)
              have c3 := hq.cell HC3.out (by simp)
              have HKS := Lib.hid (told_step hy st)
              clear hslS hy hcs
              obtain ⟨kb, hkb⟩ : ∃ kb, toldOne (names.take j) st = kb := ⟨_, rfl⟩
              have HKB := Lib.hid hkb
              rw [hkb]
              clear hkb
              cases kb with
              | true =>
                go_wp2_with fail
                repeat (go_quiet (fail); try go_wp2_with fail)
                refine ⟨⟨j + 1, by omega, by simp, ?_, hq.drewN _⟩, by simp only [intOf]; omega⟩
                rw [HKS.out, HKB.out]
                rfl
              | false =>
                go_wp2_with fail
                repeat (go_quiet (fail); try go_wp2_with fail)
                refine ⟨⟨j + 1, by omega, by simp, ?_, hq.drewN _⟩, by simp only [intOf]; omega⟩
                rw [HKS.out, HKB.out]
                refine congrArg Value.bool ?_
                rw [Bool.false_or, ByteArray.toList_eq, ByteArray.toList_eq, Bool.eq_iff_iff]
                simp
            · have d2 : decide ((j : Int) < (q1 : Int)) = false := by simp; omega
              have hjq2 : names.take j = names := by rw [show j = q1 by omega, ← HQ.out.2.1]; simp
              rw [hjq2]
              obtain ⟨kb, hkb⟩ : ∃ kb, toldOne names st = kb := ⟨_, rfl⟩
              have HKB := Lib.hid hkb
              rw [hkb]
              have hk2 := hk.then hq
              clear hkb hjq2 HEM
              cases kb with
              | true =>
                go_wp2_with fail
                exact ⟨⟨k + 1, by omega, by simp, Lib.hid (by rw [HTP.out, hst.out, HKB.out]; rfl), hk2⟩, by simp only [intOf]; omega⟩
              | false =>
                have hno : toldM names l = false := by
                  cases h : toldM names l with
                  | false => rfl
                  | true => have := HPN.out h; rw [HKB.out] at this; cases this
                have hA1 := HB.out.1
                rw [if_neg (by rw [hno]; simp)] at hA1
                have hA2 := HB.out.2.1 hno
                have HA1 := Lib.hid hA1
                have HA2 := Lib.hid hA2
                clear hA1 hA2 hno HV2
                go_wp2_with fail
                go_returns
                exact ⟨by rw [HA1.out, HA2.out]; rfl, hk1.then hk2⟩
        · have d1 : decide ((k : Int) < (n : Int)) = false := by simp; omega
          have hall : toldM names l = true := by
            have := hst.out
            rwa [show k = n by omega, ← HQ.out.1, List.take_length] at this
          have hA1 := HB.out.1
          rw [if_pos hall] at hA1
          have hA2 := HB.out.2.2 hall
          have HA1 := Lib.hid hA1
          have HA2 := Lib.hid hA2
          have hkk := hk1.then hk
          obtain ⟨e0, e1, e2, e3, e4, e5, e6⟩ := ev_block (e := ev) (hk.heap HEB.out (by simp))
          have HV1 := HV2 wr (HA.out.keep hkk) (HNm.out.keep hkk) (HLs.out.keep hkk)
          clear HV2 hall hA1 hA2
          go_wp2_with (go_at_call 36; refine HV1.out.mono ?_; rintro e w3 ⟨rfl, hk3⟩)
          go_returns
          exact ⟨by rw [HA1.out, ← HA2.out]; rfl, hkk.then hk3⟩
    · have d5 : ((q1 : Int) != (q2 : Int)) = true := by rw [bne_iff_ne]; omega
      have d6 : ((q1 : Int) == (q2 : Int)) = false := by rw [beq_eq_false_iff_ne]; omega
      rw [hB1, hB2 (fun h => hqq h.1), if_neg (fun h => hqq h.1)]
      clear hw hk htr hB1 hB2 hB3 hn hq1 hq2 HV hqq
      go_enter Tryz.func20, Tryz.ntmps20
      go_wp2_with (go_at_call 10; refine HC.out.mono ?_; rintro e w2 ⟨rfl, hk2⟩)
      go_returns
      exact ⟨rfl, hk1.then hk2⟩
  · have hres : holdsB l ev names last = false ∧ holdsC l names last = 110 := by
      unfold holdsB holdsC
      unfold checkE checkK at htr
      cases hw : wholeM l with
      | none => exact ⟨rfl, rfl⟩
      | some t =>
        rw [hw] at htr
        have h3 : ¬ t.kind = 3 := fun h => htr ⟨rfl, h⟩
        exact ⟨by simp only; rw [if_neg (fun h => h3 h.1)], by simp only; rw [if_neg h3]⟩
    rw [hres.1, hres.2]
    obtain ⟨ck, hck⟩ : ∃ ck, checkK l = ck := ⟨_, rfl⟩
    obtain ⟨ce, hce⟩ : ∃ ce, checkE l = ce := ⟨_, rfl⟩
    rw [hck, hce] at htr HC
    rw [hn] at HC ⊢
    rw [hq1, hq2]
    clear hres hck hce hn hq1 hq2
    go_enter Tryz.func20, Tryz.ntmps20
    go_wp2_with (go_at_call 10; refine HC.out.mono ?_; rintro e w2 ⟨rfl, hk2⟩)
    all_goals first
      | (go_returns; exact ⟨rfl, hk1.then hk2⟩)
      | (exfalso; simp_all; done)
      | trace_state

end Go.Proofs.YtefcmijobbgpbaaGreatDoor

namespace Go.Proofs.YtefcmijobbgpbaaGreatDoor
open Go.RowKit

theorem bound_block {w : World} {B : Nat} {a b : Value} {t : TypeId} (h : w.heap[B]? = some (.cells #[a, b] t)) : w.cell? ⟨B, 0, none⟩ = some a ∧ w.cell? ⟨B, 1, none⟩ = some b := by
  simp [World.cell?, h]

set_option maxHeartbeats 8000000 in
set_option maxRecDepth 100000 in
theorem exprHolds_any (x : List PartR) (ev : EvR) (names : List ByteArray) (last : List EvR) (v vn vl : Value) (w : World) (hG : GlobX w) (hok : ∀ p ∈ x, p.ok) (hA : ArgPart w v x) (hN : ArgStr w vn names) (hL : ArgEv w vl last) (hxl : x.length * 56 ≤ 140737488355328) (hnl : names.length * 16 ≤ 140737488351232) (hll : last.length * 80 ≤ 140737488351232) :
    Calls Tryz.prog 4 #[v, .agg #[.string ev.key, .string ev.typ, .int .i64 ev.n0, .int .i64 ev.n1, .int .i64 ev.n2, .int .i64 ev.n3, .string ev.text], .agg #[vn, vl]] w fun e w' => e = .returned (.bool true) ∧ Keeps [] w w' := by
  have hk1 := ((Keeps.refl [] w).alloc (.cells #[.string ev.key, .string ev.typ, .int .i64 ev.n0, .int .i64 ev.n1, .int .i64 ev.n2, .int .i64 ev.n3, .string ev.text] 37 (0, 0))).alloc (.cells #[vn, vl] 40 (0, 0))
  have HEB : Hid (((w.alloc (.cells #[.string ev.key, .string ev.typ, .int .i64 ev.n0, .int .i64 ev.n1, .int .i64 ev.n2, .int .i64 ev.n3, .string ev.text] 37 (0, 0))).alloc (.cells #[vn, vl] 40 (0, 0))).heap[w.heap.size]? = some (.cells #[.string ev.key, .string ev.typ, .int .i64 ev.n0, .int .i64 ev.n1, .int .i64 ev.n2, .int .i64 ev.n3, .string ev.text] 37 (0, 0))) := Lib.hid (alloc_old (heap_alloc_new w _) _)
  have HBB : Hid (((w.alloc (.cells #[.string ev.key, .string ev.typ, .int .i64 ev.n0, .int .i64 ev.n1, .int .i64 ev.n2, .int .i64 ev.n3, .string ev.text] 37 (0, 0))).alloc (.cells #[vn, vl] 40 (0, 0))).heap[w.heap.size + 1]? = some (.cells #[vn, vl] 40 (0, 0))) := Lib.hid (heap_top (by simp))
  have HG := Lib.hid hG
  have HA := Lib.hid hA
  have HN := Lib.hid hN
  have HL := Lib.hid hL
  have HLL := Lib.hid hll
  have HWk := fun w hG => Lib.hid (works_x w hG)
  have HLend := fun w h => Lib.hid (lend_any last vl w h hll)
  have HH := fun vo w hG hA hN hL => Lib.hid (holds_any x ev names last v vn vo w hG hok hA hN hL)
  have HR := fun w hA hN hL => Lib.hid (refHolds_any x ev names last v vn vl w hok hA hN hL (by omega) (by omega) (by omega))
  have HK := fun B n b cp w hn h h' => Lib.hid (kept_any last vl B n b cp w hn (by omega) h h')
  generalize holdsB x ev names last = hb at *
  generalize holdsC x names last = hc at *
  obtain ⟨n, hn⟩ : ∃ n, last.length = n := ⟨_, rfl⟩
  have HQ := Lib.hid hn
  rw [hn] at HLend
  clear hG hA hN hL hok hxl hnl hll hn
  go_enter Tryz.func4, Tryz.ntmps4
  go_wp2_with fail
  refine (HLend _ (HL.out.keep hk1)).out.mono ?_
  rintro e w2 ⟨⟨b, cp, rfl, hlent⟩, hk2⟩
  have HOw := Lib.hid (hlent.arg HQ.out).1
  have HLt := Lib.hid hlent
  have hk3 := hk1.then hk2
  have HEB2 := Lib.hid (hk2.heap HEB.out (by simp))
  have HBB2 := Lib.hid (hk2.heap HBB.out (by simp))
  obtain ⟨e0, e1, e2, e3, e4, e5, e6⟩ := ev_block (e := ev) HEB2.out
  obtain ⟨q0, q1⟩ := bound_block HBB2.out
  clear hlent HLend
  go_wp2_with fail
  refine (HH _ _ (HG.out.keep hk3) (HA.out.keep hk3) (HN.out.keep hk3) HOw.out).out.mono ?_
  rintro e w4 ⟨rfl, hk4⟩
  have hk5 := hk3.then hk4
  obtain ⟨e0, e1, e2, e3, e4, e5, e6⟩ := ev_block (e := ev) (hk4.heap HEB2.out (by simp))
  obtain ⟨q0, q1⟩ := bound_block (hk4.heap HBB2.out (by simp))
  clear HH
  go_wp2_with fail
  refine (HR _ (HA.out.keep hk5) (HN.out.keep hk5) (HL.out.keep hk5)).out.mono ?_
  rintro e w5 ⟨rfl, hk6⟩
  have hk7 := hk5.then hk6
  obtain ⟨q0, q1⟩ := bound_block ((hk4.then hk6).heap HBB2.out (by simp))
  have HK1 := HK _ _ _ _ _ HQ.out (HLt.out.keep (hk4.then hk6)) (HL.out.keep hk7)
  clear HR e0 e1 e2 e3 e4 e5 e6 HK
  go_wp2_with (first
    | (go_at_call 21; refine HK1.out.mono ?_; rintro e w6 ⟨rfl, hk8⟩)
    | (go_at_call 17; refine (HWk _ (HG.out.keep (hk7.then hk8))).out.mono ?_; rintro e w9 ⟨rfl, hk9⟩))
  all_goals go_returns
  all_goals exact ⟨rfl, (hk7.then hk8).then hk9⟩

end Go.Proofs.YtefcmijobbgpbaaGreatDoor
