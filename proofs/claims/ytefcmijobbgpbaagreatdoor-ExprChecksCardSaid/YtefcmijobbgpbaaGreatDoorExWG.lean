/- What the document writes of operations, walked; its Write. Conditions: those of each theorem. -/
import Derived.Test.YtefcmijobbgpbaaGreatDoorExWF
namespace Go.Proofs.YtefcmijobbgpbaaGreatDoor
open Go.RowKit

def WritIH (x : List PartR) (t : Ex) : Prop := ∀ (at_ : Nat) (v : Value) (w : World), (∃ r, x.drop at_ = t.parts ++ r) → ArgPart w v x → Calls Tryz.prog 29 #[v, .int .i64 (at_ : Int), .bool false] w fun e w' => e = .returned (.tuple #[.string (t.textB false), .int .i64 ((at_ + t.parts.length : Nat) : Int)]) ∧ Keeps [] w w'

theorem drop_head {x : List PartR} {at_ : Nat} {p : PartR} {l : List PartR} (h : x.drop at_ = p :: l) : x[at_]? = some p ∧ x.drop (at_ + 1) = l ∧ at_ < x.length := by
  have hlt : at_ < x.length := by
    rcases Nat.lt_or_ge at_ x.length with h2 | h2
    · exact h2
    · rw [List.drop_eq_nil_of_le h2] at h; cases h
  rw [List.drop_eq_getElem_cons hlt] at h
  obtain ⟨h1, h2⟩ := List.cons.inj h
  exact ⟨by rw [List.getElem?_eq_getElem hlt, h1], h2, hlt⟩

set_option maxHeartbeats 8000000 in
set_option maxRecDepth 100000 in
theorem writ_neg (x : List PartR) (at_ : Nat) (v : Value) (w : World) (hxl : x.length ≤ 200) (hA : ArgPart w v x) (p : PartR) (a : Ex) (hk13 : p.kind = 13) (IH : WritIH x a) (hsz : (a.textB false).size ≤ 100000000000000000) (hd : ∃ r, x.drop at_ = (Ex.neg p a).parts ++ r) (o : Bool) :
    Calls Tryz.prog 29 #[v, .int .i64 (at_ : Int), .bool o] w fun e w' => e = .returned (.tuple #[.string ((Ex.neg p a).textB o), .int .i64 ((at_ + (Ex.neg p a).parts.length : Nat) : Int)]) ∧ Keeps [] w w' := by
  have hk0 := Keeps.refl [] w
  obtain ⟨r, hd⟩ := hd
  simp only [Ex.parts, List.cons_append] at hd
  obtain ⟨hp, hdr, hlt⟩ := drop_head hd
  have HI := fun w hA => Lib.hid (IH (at_ + 1) v w ⟨r, hdr⟩ hA)
  have HA := Lib.hid hA
  obtain ⟨ao, cap, rfl, _, h2⟩ := hA
  obtain ⟨n, hn⟩ : ∃ n, x.length = n := ⟨_, rfl⟩
  rw [hn] at hlt hxl HI HA ⊢
  have b0 : (0 : Int) ≤ (at_ : Int) := by omega
  have b1 : (at_ : Int) < (n : Int) := by omega
  obtain ⟨bk, oo, hao, hsl, _, _⟩ := h2 (by intro e; rw [e] at hp; cases hp)
  subst hao
  obtain ⟨c0, c1, c2, c3, c4⟩ := hsl at_ p hp
  have wr1 : IntKind.i64.wrap ((at_ : Int) + 1) = (at_ : Int) + 1 := IntWalk.i64_in _ (by omega)
  have hk1 := hk0.alloc (.cells #[.int .i64 p.kind, .int .i64 p.n, .string p.s, .string p.stage, .int .i64 p.field] 58 (0, 0))
  have HBT := Lib.hid (heap_alloc_new w (.cells #[.int .i64 p.kind, .int .i64 p.n, .string p.s, .string p.stage, .int .i64 p.field] 58 (0, 0)))
  have ec : ((at_ + 1 : Nat) : Int) = (at_ : Int) + 1 := by omega
  rw [ec] at HI
  have HT : Hid ((Ex.neg p a).textB o = fenceB o (sNot ++ a.textB false)) := Lib.hid rfl
  rw [HT.out]
  have e4 : ((at_ + (Ex.neg p a).parts.length : Nat) : Int) = ((at_ + 1 + a.parts.length : Nat) : Int) := by simp only [Ex.parts, List.length_cons]; omega
  rw [e4]
  generalize a.textB false = ta at *
  generalize a.parts.length = na at *
  obtain ⟨kd, pn, ps, st, f⟩ := p
  simp only at c0 c1 c2 c3 c4 hk13 hk1 HBT
  subst hk13
  clear hp hd hdr hsl h2 hn IH ec e4 HT
  go_enter Tryz.func29, Tryz.ntmps29
  go_wp2_with fail
  refine (HI _ (HA.out.keep hk1)).out.mono ?_
  rintro e w2 ⟨rfl, hk2⟩
  obtain ⟨t0, t1, t2, t3, t4, _⟩ := part_block (hk2.heap HBT.out (by simp))
  have hs4 : sNot.size = 4 := rfl
  clear HI
  cases o with
  | true =>
    go_wp2_with fail
    go_returns
    exact ⟨rfl, hk1.then hk2⟩
  | false =>
    have hs5 : (sNot ++ ta).size = 4 + ta.size := by rw [ByteArray.size_append]; rfl
    have hs6 : (sOpen ++ (sNot ++ ta)).size = 6 + ta.size := by rw [ByteArray.size_append, ByteArray.size_append]; show 2 + (4 + ta.size) = _; omega
    go_wp2_with fail
    go_returns
    exact ⟨rfl, hk1.then hk2⟩

set_option maxHeartbeats 8000000 in
set_option maxRecDepth 100000 in
theorem writ_bin (x : List PartR) (at_ : Nat) (v : Value) (w : World) (hxl : x.length ≤ 200) (hA : ArgPart w v x) (p : PartR) (a b : Ex) (hk12 : 4 ≤ p.kind ∧ p.kind ≤ 12) (IH : WritIH x a) (IH2 : WritIH x b) (hsz : (a.textB false).size ≤ 100000000000000000) (hsz2 : (b.textB false).size ≤ 100000000000000000) (hd : ∃ r, x.drop at_ = (Ex.bin p a b).parts ++ r) (o : Bool) :
    Calls Tryz.prog 29 #[v, .int .i64 (at_ : Int), .bool o] w fun e w' => e = .returned (.tuple #[.string ((Ex.bin p a b).textB o), .int .i64 ((at_ + (Ex.bin p a b).parts.length : Nat) : Int)]) ∧ Keeps [] w w' := by
  have hk0 := Keeps.refl [] w
  obtain ⟨r, hd⟩ := hd
  simp only [Ex.parts, List.cons_append, List.append_assoc] at hd
  obtain ⟨hp, hdr, hlt⟩ := drop_head hd
  have hdr2 : x.drop (at_ + 1 + a.parts.length) = b.parts ++ r := by
    rw [← List.drop_drop, hdr, List.drop_append_of_le_length (Nat.le_refl _), List.drop_length, List.nil_append]
  have HI := fun w hA => Lib.hid (IH (at_ + 1) v w ⟨_, hdr⟩ hA)
  have HI2 := fun w hA => Lib.hid (IH2 (at_ + 1 + a.parts.length) v w ⟨_, hdr2⟩ hA)
  have HA := Lib.hid hA
  obtain ⟨ao, cap, rfl, _, h2⟩ := hA
  obtain ⟨n, hn⟩ : ∃ n, x.length = n := ⟨_, rfl⟩
  rw [hn] at hlt hxl HI HI2 HA ⊢
  have b0 : (0 : Int) ≤ (at_ : Int) := by omega
  have b1 : (at_ : Int) < (n : Int) := by omega
  obtain ⟨bk, oo, hao, hsl, _, _⟩ := h2 (by intro e; rw [e] at hp; cases hp)
  subst hao
  obtain ⟨c0, c1, c2, c3, c4⟩ := hsl at_ p hp
  have wr1 : IntKind.i64.wrap ((at_ : Int) + 1) = (at_ : Int) + 1 := IntWalk.i64_in _ (by omega)
  have hk1 := hk0.alloc (.cells #[.int .i64 p.kind, .int .i64 p.n, .string p.s, .string p.stage, .int .i64 p.field] 58 (0, 0))
  have HBT := Lib.hid (heap_alloc_new w (.cells #[.int .i64 p.kind, .int .i64 p.n, .string p.s, .string p.stage, .int .i64 p.field] 58 (0, 0)))
  have ec : ((at_ + 1 : Nat) : Int) = (at_ : Int) + 1 := by omega
  rw [ec] at HI
  have HT : Hid ((Ex.bin p a b).textB o = fenceB o ((((a.textB false ++ sSp) ++ (opAt p.kind).sign) ++ sSp) ++ b.textB false)) := Lib.hid rfl
  rw [HT.out]
  have e4 : ((at_ + (Ex.bin p a b).parts.length : Nat) : Int) = ((at_ + 1 + a.parts.length + b.parts.length : Nat) : Int) := by simp only [Ex.parts, List.length_cons, List.length_append]; omega
  rw [e4]
  have HS := fun w => Lib.hid (opSign_any p.kind hk12 w)
  have hss := sign_size p.kind
  generalize a.textB false = ta at *
  generalize a.parts.length = na at *
  generalize b.textB false = tb at *
  generalize b.parts.length = nb at *
  obtain ⟨kd, pn, ps, st, f⟩ := p
  simp only at c0 c1 c2 c3 c4 hk12 hk1 HBT HS hss ⊢
  have dn : (kd != 13) = true := by rw [bne_iff_ne]; omega
  have d3 : (kd == 1) = false := by rw [beq_eq_false_iff_ne]; omega
  have d4 : (kd == 2) = false := by rw [beq_eq_false_iff_ne]; omega
  have d5 : (kd == 3) = false := by rw [beq_eq_false_iff_ne]; omega
  generalize (opAt kd).sign = sg at *
  clear hp hd hdr hdr2 hsl h2 hn IH IH2 ec e4 HT hk12
  go_enter Tryz.func29, Tryz.ntmps29
  go_wp2_with fail
  refine (HI _ (HA.out.keep hk1)).out.mono ?_
  rintro e w2 ⟨rfl, hk2⟩
  obtain ⟨t0, t1, t2, t3, t4, _⟩ := part_block (hk2.heap HBT.out (by simp))
  have hkk := hk1.then hk2
  have hs4 : sNot.size = 4 := rfl
  clear HI
  go_wp2_with fail
  refine (HI2 _ (HA.out.keep hkk)).out.mono ?_
  rintro e w3 ⟨rfl, hk3⟩
  obtain ⟨t0, t1, t2, t3, t4, _⟩ := part_block (hk3.heap (hk2.heap HBT.out (by simp)) (by simp))
  clear HI2
  have z1 : sSp.size = 1 := rfl
  have z2 : (ta ++ sSp).size = ta.size + 1 := by rw [ByteArray.size_append]; rfl
  have z3 : ((ta ++ sSp) ++ sg).size = ta.size + 1 + sg.size := by rw [ByteArray.size_append, z2]
  have z4 : (((ta ++ sSp) ++ sg) ++ sSp).size = ta.size + 1 + sg.size + 1 := by rw [ByteArray.size_append, z3]; rfl
  have z5 : ((((ta ++ sSp) ++ sg) ++ sSp) ++ tb).size = ta.size + 1 + sg.size + 1 + tb.size := by rw [ByteArray.size_append, z4]
  have z6 : (sOpen ++ ((((ta ++ sSp) ++ sg) ++ sSp) ++ tb)).size = 2 + (ta.size + 1 + sg.size + 1 + tb.size) := by rw [ByteArray.size_append, z5]; rfl
  cases o with
  | true =>
    go_wp2_with (go_at_call 51; refine (HS _).out.mono ?_; rintro e w4 ⟨rfl, hk4⟩)
    go_returns
    exact ⟨rfl, (hkk.then hk3).then hk4⟩
  | false =>
    go_wp2_with (go_at_call 51; refine (HS _).out.mono ?_; rintro e w4 ⟨rfl, hk4⟩)
    go_returns
    exact ⟨rfl, (hkk.then hk3).then hk4⟩

theorem writ_any (x : List PartR) (hok : ∀ p ∈ x, p.ok) (hxl : x.length ≤ 200) : ∀ (t : Ex), t.good → t.well → ∀ (o : Bool) (at_ : Nat) (v : Value) (w : World), (∃ r, x.drop at_ = t.parts ++ r) → ArgPart w v x → Calls Tryz.prog 29 #[v, .int .i64 (at_ : Int), .bool o] w fun e w' => e = .returned (.tuple #[.string (t.textB o), .int .i64 ((at_ + t.parts.length : Nat) : Int)]) ∧ Keeps [] w w' := by
  have hsub : ∀ (t : Ex) (at_ : Nat), (∃ r, x.drop at_ = t.parts ++ r) → (∀ p ∈ t.parts, p.ok) ∧ t.parts.length ≤ 200 := by
    rintro t at_ ⟨r, h⟩
    have h1 := congrArg List.length h
    rw [List.length_drop, List.length_append] at h1
    refine ⟨fun p hp => hok p (List.mem_of_mem_drop (i := at_) (by rw [h]; exact List.mem_append_left _ hp)), by omega⟩
  have hsz : ∀ (t : Ex), t.good → (∀ p ∈ t.parts, p.ok) ∧ t.parts.length ≤ 200 → (t.textB false).size ≤ 100000000000000000 := fun t hg h => by
    have := textB_size t false hg h.1
    have := h.2
    omega
  intro t
  induction t with
  | leaf p =>
    rintro hg hw o at_ v w ⟨r, hd⟩ hA
    obtain ⟨hp, _, _⟩ := drop_head hd
    refine (writ_leaf x hok at_ v w (by omega) hA p hp (Ex.good_leaf hg) hw.2 o).mono ?_
    rintro e w' ⟨rfl, hk⟩
    exact ⟨rfl, hk⟩
  | neg p a iha =>
    rintro hg hw o at_ v w hd hA
    obtain ⟨hps, hpl⟩ := hsub _ at_ hd
    exact writ_neg x at_ v w hxl hA p a hw.2.1 (fun at_ v w hd hA => iha (Ex.good_neg hg).2 hw.2.2 false at_ v w hd hA) (hsz a (Ex.good_neg hg).2 ⟨fun q hq => hps q (by simp [Ex.parts, hq]), by simp [Ex.parts] at hpl; omega⟩) hd o
  | bin p a b iha ihb =>
    rintro hg hw o at_ v w hd hA
    obtain ⟨hps, hpl⟩ := hsub _ at_ hd
    exact writ_bin x at_ v w hxl hA p a b hw.2.1 (fun at_ v w hd hA => iha (Ex.good_bin hg).2.1 hw.2.2.1 false at_ v w hd hA) (fun at_ v w hd hA => ihb (Ex.good_bin hg).2.2 hw.2.2.2 false at_ v w hd hA) (hsz a (Ex.good_bin hg).2.1 ⟨fun q hq => hps q (by simp [Ex.parts, hq]), by simp [Ex.parts] at hpl; omega⟩) (hsz b (Ex.good_bin hg).2.2 ⟨fun q hq => hps q (by simp [Ex.parts, hq]), by simp [Ex.parts] at hpl; omega⟩) hd o

set_option maxHeartbeats 2000000 in
set_option maxRecDepth 100000 in
theorem refWrite_any (x : List PartR) (v : Value) (w : World) (hok : ∀ p ∈ x, p.ok) (hA : ArgPart w v x) (hxl : x.length ≤ 9223372036854775807) :
    Calls Tryz.prog 12 #[v] w fun e w' => e = .returned (.tuple #[.string (joinS (writeM x)), .int .i64 (joinC (writeM x))]) ∧ Keeps [] w w' := by
  have HC := Lib.hid (refCheck_any x v w hok hA hxl)
  have HA := Lib.hid hA
  obtain ⟨ao, cap, rfl, _, _⟩ := hA
  cases hw : wholeM x with
  | none =>
    have he : checkK x = 0 ∧ checkE x = 110 := by unfold checkK checkE; rw [hw]; exact ⟨rfl, rfl⟩
    have hwm : writeM x = .error 110 := by unfold writeM; rw [hw]
    rw [he.1, he.2] at HC
    rw [hwm]
    generalize x.length = n at *
    clear hw he hwm
    go_enter Tryz.func12, Tryz.ntmps12
    go_wp2_with (go_at_call 10; refine HC.out.mono ?_; rintro e w2 ⟨rfl, hk2⟩)
    go_returns
    exact ⟨rfl, hk2⟩
  | some t =>
    have he : checkE x = 0 := by unfold checkE; rw [hw]
    have hwm := write_text hw hok
    have hpl := wholeM_parts hw
    have HWr := fun w hA => Lib.hid (writ_any x hok hpl.2 t (wholeM_good hw) (growM_well (wholeM_grow hw)).1 true 0 (.slice ao x.length cap) w ⟨[], by rw [List.drop_zero, List.append_nil]; exact hpl.1⟩ hA)
    rw [he] at HC
    rw [hwm]
    have hB : (⟨(t.textB true).data.toList.toArray⟩ : ByteArray) = t.textB true := by simp
    have hJ : joinS (.ok (t.textB true).data.toList) = t.textB true := hB
    have hJ2 : joinC (.ok (t.textB true).data.toList) = 0 := rfl
    rw [hJ, hJ2]
    generalize t.textB true = tx at *
    generalize checkK x = ck at *
    obtain ⟨n, hn⟩ : ∃ n, x.length = n := ⟨_, rfl⟩
    rw [hn] at HC HA HWr ⊢
    clear hw he hwm hB hJ hJ2 hpl hn
    go_enter Tryz.func12, Tryz.ntmps12
    go_wp2_with (first
      | (go_at_call 10; refine HC.out.mono ?_; rintro e w2 ⟨rfl, hk2⟩)
      | (go_at_call 29; refine (HWr _ (HA.out.keep hk2)).out.mono ?_; rintro e w3 ⟨rfl, hk3⟩))
    go_returns
    exact ⟨rfl, hk2.then hk3⟩

end Go.Proofs.YtefcmijobbgpbaaGreatDoor
