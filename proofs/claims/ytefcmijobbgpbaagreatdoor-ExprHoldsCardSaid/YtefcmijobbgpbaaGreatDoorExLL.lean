/- Holds. Conditions: those of each theorem. -/
import Derived.Test.YtefcmijobbgpbaaGreatDoorExKK
namespace Go.Proofs.YtefcmijobbgpbaaGreatDoor
open Go.RowKit

theorem idxFrom_congr {s s' : ByteArray} (h : s.data.toList = s'.data.toList) : ∀ (L : List ByteArray) (k : Nat), idxFrom s L k = idxFrom s' L k
  | [], _ => rfl
  | x :: r, k => by simp only [idxFrom, h, idxFrom_congr h r (k + 1)]

theorem idxFrom_mem {s : ByteArray} : ∀ (L : List ByteArray) (k : Nat), 0 ≤ idxFrom s L k → ∃ x ∈ L, x.data.toList = s.data.toList
  | [], _, h => by simp [idxFrom] at h
  | x :: r, k, h => by
    simp only [idxFrom] at h
    split at h
    · rename_i he
      exact ⟨x, by simp, he⟩
    · obtain ⟨y, hy, he⟩ := idxFrom_mem r (k + 1) h
      exact ⟨y, by simp [hy], he⟩

theorem stages_cover : ∀ (l : List PartR) (out : List ByteArray), (∀ s ∈ out, s ∈ stagesFrom l out) ∧ ∀ p ∈ l, ¬ p.stage.data.toList = [] → ∃ s ∈ stagesFrom l out, s.data.toList = p.stage.data.toList
  | [], out => ⟨fun s hs => hs, fun p hp => by cases hp⟩
  | q :: r, out => by
    rw [stagesFrom]
    obtain ⟨h1, h2⟩ := stages_cover r (if q.stage.data.toList = [] then out else if hasM out q.stage then out else out ++ [q.stage])
    have hsub : ∀ s ∈ out, s ∈ (if q.stage.data.toList = [] then out else if hasM out q.stage then out else out ++ [q.stage]) := by
      intro s hs
      split
      · exact hs
      · split
        · exact hs
        · simp [hs]
    refine ⟨fun s hs => h1 s (hsub s hs), fun p hp hne => ?_⟩
    rcases List.mem_cons.1 hp with rfl | hp
    · rw [if_neg hne] at h1 ⊢
      by_cases hh : hasM out p.stage = true
      · rw [if_pos hh] at h1 ⊢
        obtain ⟨x, hx, he⟩ := idxFrom_mem out 0 (by simpa [hasM] using hh)
        exact ⟨x, h1 x hx, he⟩
      · rw [if_neg hh] at h1 ⊢
        exact ⟨p.stage, h1 _ (by simp), rfl⟩
    · exact h2 p hp hne

theorem missFrom_all {names : List ByteArray} : ∀ (L : List ByteArray) (k : Nat), missFrom names L k < 0 → ∀ s ∈ L, hasM names s = true
  | [], _, _, s, hs => by cases hs
  | x :: r, k, h, s, hs => by
    simp only [missFrom] at h
    split at h
    · rename_i hx
      rcases List.mem_cons.1 hs with rfl | hs
      · exact hx
      · exact missFrom_all r (k + 1) h s hs
    · omega

theorem hasAll_of {names : List ByteArray} {l : List PartR} {t : Ex} (hw : wholeM l = some t) (h : missM names (stagesM l) = false) : HasAll names t := by
  intro p hp _
  by_cases he : p.stage.data.toList = []
  · exact .inl he
  · right
    have hl := (wholeM_parts hw).1
    obtain ⟨s, hs, hse⟩ := (stages_cover l []).2 p (by rw [hl]; exact hp) he
    have hm : missFrom names (stagesM l) 0 < 0 := by
      have := of_decide_eq_false h
      omega
    have hh := missFrom_all _ _ hm s hs
    have h0 : 0 ≤ idxFrom s names 0 := by simpa [hasM] using hh
    rwa [idxFrom_congr hse] at h0

/-- What Holds tells. -/
def holdsB (l : List PartR) (ev : EvR) (names : List ByteArray) (last : List EvR) : Bool := match wholeM l with
  | none => false
  | some t => if t.kind = 3 ∧ names.length = last.length ∧ missM names (stagesM l) = false then (t.val (getM ev names last)).ok else false
def holdsC (l : List PartR) (names : List ByteArray) (last : List EvR) : Int := match wholeM l with
  | none => 110
  | some t => if t.kind = 3 then (if names.length = last.length ∧ missM names (stagesM l) = false then 0 else 5) else 110

set_option maxHeartbeats 8000000 in
set_option maxRecDepth 100000 in
theorem holds_any (l : List PartR) (ev : EvR) (names : List ByteArray) (last : List EvR) (v vn vl : Value) (w : World) (hG : GlobX w) (hok : ∀ x ∈ l, x.ok) (hA : ArgPart w v l) (hn : ArgStr w vn names) (hl : ArgEv w vl last) :
    Calls Tryz.prog 19 #[v, .agg #[.string ev.key, .string ev.typ, .int .i64 ev.n0, .int .i64 ev.n1, .int .i64 ev.n2, .int .i64 ev.n3, .string ev.text], vn, vl] w fun e w' => e = .returned (.tuple #[.bool (holdsB l ev names last), .int .i64 (holdsC l names last)]) ∧ Keeps [] w w' := by
  have hk0 := Keeps.refl [] w
  obtain ⟨o1, ho1⟩ : ∃ o1, o1 = Obj.cells (evRow ev) 37 (0, 0) := ⟨_, rfl⟩
  obtain ⟨o2, ho2⟩ : ∃ o2, o2 = Obj.cells #[vn] 28 (0, 0) := ⟨_, rfl⟩
  obtain ⟨o3, ho3⟩ : ∃ o3, o3 = Obj.cells #[vl] 38 (0, 0) := ⟨_, rfl⟩
  have hk3 := ((hk0.alloc o1).alloc o2).alloc o3
  have hIn : names.length = last.length → GetIn (((w.alloc o1).alloc o2).alloc o3) w.heap.size (w.heap.size + 1 + 1) (w.heap.size + 1) ev names last vl vn := by
    intro hs
    have h1 : (((w.alloc o1).alloc o2).alloc o3).heap[w.heap.size]? = some o1 := alloc_old (alloc_old (heap_alloc_new w o1) o2) o3
    have h2 : (((w.alloc o1).alloc o2).alloc o3).heap[w.heap.size + 1]? = some o2 := alloc_old (heap_alloc2_new w o1 o2) o3
    have h3 : (((w.alloc o1).alloc o2).alloc o3).heap[w.heap.size + 1 + 1]? = some o3 := heap_top (by simp)
    exact ⟨by rw [h1, ho1], by simp only [World.cell?]; rw [h3, ho3]; rfl, by simp only [World.cell?]; rw [h2, ho2]; rfl, hl.keep hk3, hn.keep hk3, hs⟩
  have HIn := Lib.hid hIn
  have HW := Lib.hid (whole_any l v _ (hG.keep hk3) hok (hA.keep hk3))
  have HSt := Lib.hid fun w' (hk : Keeps [] w w') => stages_any l v w' (hG.keep hk) hok (hA.keep hk)
  obtain ⟨ao, cap, rfl, _, _⟩ := hA
  have HN := Lib.hid hn
  obtain ⟨aon, capn, rfl, _, _⟩ := hn
  obtain ⟨aol, capl, rfl, _, _⟩ := hl
  obtain ⟨n, hln⟩ : ∃ n, l.length = n := ⟨_, rfl⟩
  obtain ⟨q1, hq1⟩ : ∃ q, names.length = q := ⟨_, rfl⟩
  obtain ⟨q2, hq2⟩ : ∃ q, last.length = q := ⟨_, rfl⟩
  have HQ := Lib.hid (And.intro hq1 hq2)
  rw [hln] at HW HSt ⊢
  rw [hq1] at ho2 HN ⊢
  rw [hq2] at ho3 ⊢
  have HOB := Lib.hid (And.intro ho1 (And.intro ho2 ho3))
  have hB : Hid (holdsB l ev names last = holdsB l ev names last) := Lib.hid rfl
  clear hIn hln hG hok hB hq1 hq2
  cases hw : wholeM l with
  | none =>
    have HB : Hid (holdsB l ev names last = false ∧ holdsC l names last = 110) := Lib.hid (by unfold holdsB holdsC; rw [hw]; exact ⟨rfl, rfl⟩)
    rw [HB.out.1, HB.out.2]
    rw [hw] at HW
    clear hw HSt
    subst ho1 ho2 ho3
    go_enter Tryz.func19, Tryz.ntmps19
    go_wp2_with (go_at_call 25; refine HW.out.mono ?_; rintro e w2 ⟨h, hk2⟩; have h := h.none_form; subst h)
    go_returns
    exact ⟨rfl, hk3.then hk2⟩
  | some t =>
    have hmf : ∀ (fn : Fn) (first cap : Array Value) (w : World), (Instr.makeFunc fn first cap).run Tryz.prog w = .ok (.func fn first cap) w := fun _ _ _ _ => rfl
    have hgood := wholeM_good hw
    rw [hw] at HW
    have HWM := Lib.hid hw
    have HB1 : Hid (holdsB l ev names last = if t.kind = 3 ∧ names.length = last.length ∧ missM names (stagesM l) = false then (t.val (getM ev names last)).ok else false) := Lib.hid (by unfold holdsB; rw [hw])
    have HB2 : Hid (holdsC l names last = if t.kind = 3 then (if names.length = last.length ∧ missM names (stagesM l) = false then 0 else 5) else 110) := Lib.hid (by unfold holdsC; rw [hw])
    clear hw
    by_cases hk : t.kind = 3
    · have HKd := Lib.hid hk
      have hSt2 := fun w' hk' => (HSt.out w' hk')
      by_cases hqq : q1 = q2
      · have hnl : names.length = last.length := by rw [HQ.out.1, HQ.out.2, hqq]
        have hgi := HIn.out hnl
        have HGI := Lib.hid hgi
        have HMiss := fun L NB vn v w h1 h2 h3 => Lib.hid (miss_any names L NB vn v w h1 h2 h3)
        have d5 : ((q1 : Int) != (q2 : Int)) = false := by rw [hqq]; simp
        cases hm : missM names (stagesM l) with
        | true =>
          have HB : Hid (holdsB l ev names last = false ∧ holdsC l names last = 5) := Lib.hid ⟨by rw [HB1.out, if_neg (fun h => by rw [h.2.2] at hm; cases hm)], by rw [HB2.out, if_pos hk, if_neg (fun h => by rw [h.2] at hm; cases hm)]⟩
          rw [HB.out.1, HB.out.2]
          have HMT := Lib.hid hm
          subst hqq
          subst ho1 ho2 ho3
          clear hk hm hgi hnl HB1 HB2 hSt2
          go_enter Tryz.func19, Tryz.ntmps19
          go_wp2_with fail
          refine HW.out.mono ?_
          rintro e w2 ⟨h, hk2⟩
          obtain ⟨O, a, h, hO, hB, hT⟩ := h.some_form
          subst h
          obtain ⟨op, sl, hnode⟩ := hT.node
          obtain ⟨_, _, _, _, _, _, _, c7⟩ := node_cells hnode
          rw [HKd.out] at c7
          have hk4 := hk3.then hk2
          clear hO hT hnode
          go_wp2_with fail
          refine (HSt.out _ hk4).mono ?_
          rintro e w5 ⟨h5, hk5⟩
          obtain ⟨ao5, q5, cp5, h5, hq5, hown5⟩ := h5.some_form HWM.out
          subst h5
          have hA5 := own_strs hown5 hq5
          have hgi5 := (HGI.out.keep hk2).keep hk5
          have hcn := hgi5.cn
          have hcl := hgi5.cl
          rw [HQ.out.1] at hcn
          rw [HQ.out.2] at hcl
          have HAN := Lib.hid hgi5.an
          have HM5 := HMiss _ _ _ _ _ hgi5.cn hgi5.an hA5
          rw [HMT.out] at HM5
          clear hown5 hA5 hgi5 HMiss hq5
          go_wp2_with fail
          refine HM5.out.mono ?_
          rintro e w6 ⟨rfl, hk6⟩
          go_wp2_with fail
          go_returns
          exact ⟨rfl, (hk4.then hk5).then hk6⟩
        | false =>
          have HB : Hid (holdsB l ev names last = (t.val (getM ev names last)).ok ∧ holdsC l names last = 0) := Lib.hid ⟨by rw [HB1.out, if_pos ⟨hk, hnl, hm⟩], by rw [HB2.out, if_pos hk, if_pos ⟨hnl, hm⟩]⟩
          rw [HB.out.1, HB.out.2]
          have HMT := Lib.hid hm
          have HAll := Lib.hid (hasAll_of HWM.out hm)
          have HRec := Lib.hid (fun O EB LB NB vl vn => reckon_any O EB LB NB ev names last vl vn t hgood HAll.out)
          obtain ⟨y, hy⟩ : ∃ y, t.val (getM ev names last) = y := ⟨_, rfl⟩
          have HYV := Lib.hid hy
          rw [hy]
          obtain ⟨yn, ys, yb⟩ := y
          subst hqq
          subst ho1 ho2 ho3
          clear hk hm hgi hnl HB1 HB2 hSt2 hy
          go_enter Tryz.func19, Tryz.ntmps19
          go_wp2_with fail
          refine HW.out.mono ?_
          rintro e w2 ⟨h, hk2⟩
          obtain ⟨O, a, h, hO, hB, hT⟩ := h.some_form
          subst h
          obtain ⟨op, sl, hnode⟩ := hT.node
          obtain ⟨_, _, _, _, _, _, _, c7⟩ := node_cells hnode
          rw [HKd.out] at c7
          have hk4 := hk3.then hk2
          have HO2 := Lib.hid hO
          have HT2 := Lib.hid hT
          clear hO hT hnode
          go_wp2_with fail
          refine (HSt.out _ hk4).mono ?_
          rintro e w5 ⟨h5, hk5⟩
          obtain ⟨ao5, q5, cp5, h5, hq5, hown5⟩ := h5.some_form HWM.out
          subst h5
          have hA5 := own_strs hown5 hq5
          have hgi5 := (HGI.out.keep hk2).keep hk5
          have HG5 := Lib.hid hgi5
          have hcn := hgi5.cn
          have hcl := hgi5.cl
          rw [HQ.out.1] at hcn
          rw [HQ.out.2] at hcl
          have HM5 := HMiss _ _ _ _ _ hgi5.cn hgi5.an hA5
          rw [HMT.out] at HM5
          clear hown5 hA5 hgi5 HMiss hq5
          go_wp2_with fail
          refine HM5.out.mono ?_
          rintro e w6 ⟨rfl, hk6⟩
          have HR6 := Lib.hid (HRec.out O _ _ _ _ _ _ a w6 ((HO2.out.keep hk5 (by simp)).keep hk6 (by simp)) ((HT2.out.keep hk5).keep hk6) (HG5.out.keep hk6))
          rw [HYV.out, valAgg_eq] at HR6
          clear HM5 HG5 hcn hcl
          go_wp2_with fail
          refine HR6.out.mono ?_
          rintro e w7 ⟨rfl, hk7⟩
          go_wp2_with fail
          go_returns
          exact ⟨rfl, ((((hk4.then hk5).then hk6).then hk7).alloc _)⟩
      · skip
        have HB : Hid (holdsB l ev names last = false ∧ holdsC l names last = 5) := Lib.hid ⟨by rw [HB1.out, if_neg (fun h => hqq (by rw [← HQ.out.1, ← HQ.out.2]; exact h.2.1))], by rw [HB2.out, if_pos hk, if_neg (fun h => hqq (by rw [← HQ.out.1, ← HQ.out.2]; exact h.1))]⟩
        rw [HB.out.1, HB.out.2]
        have d5 : ((q1 : Int) != (q2 : Int)) = true := by rw [bne_iff_ne]; omega
        have d6 : ((q1 : Int) == (q2 : Int)) = false := by rw [beq_eq_false_iff_ne]; omega
        have hc2 : (((w.alloc o1).alloc o2).alloc o3).heap[w.heap.size + 1]? = some o2 := alloc_old (heap_alloc2_new w o1 o2) o3
        have hc3 : (((w.alloc o1).alloc o2).alloc o3).heap[w.heap.size + 1 + 1]? = some o3 := heap_top (by simp)
        have hcn0 : (((w.alloc o1).alloc o2).alloc o3).cell? ⟨w.heap.size + 1, 0, none⟩ = some (.slice aon q1 capn) := by simp only [World.cell?]; rw [hc2, ho2]; rfl
        have hcl0 : (((w.alloc o1).alloc o2).alloc o3).cell? ⟨w.heap.size + 1 + 1, 0, none⟩ = some (.slice aol q2 capl) := by simp only [World.cell?]; rw [hc3, ho3]; rfl
        subst ho1 ho2 ho3
        clear hk hqq HB1 HB2 hSt2 hc2 hc3
        go_enter Tryz.func19, Tryz.ntmps19
        go_wp2_with fail
        refine HW.out.mono ?_
        rintro e w2 ⟨h, hk2⟩
        obtain ⟨O, a, h, hO, hB, hT⟩ := h.some_form
        subst h
        obtain ⟨op, sl, hnode⟩ := hT.node
        obtain ⟨_, _, _, _, _, _, _, c7⟩ := node_cells hnode
        rw [HKd.out] at c7
        have hk4 := hk3.then hk2
        clear hO hT hnode
        go_wp2_with fail
        refine (HSt.out _ hk4).mono ?_
        rintro e w5 ⟨h5, hk5⟩
        obtain ⟨ao5, q5, cp5, h5, hq5, hown5⟩ := h5.some_form HWM.out
        subst h5
        have hA5 := own_strs hown5 hq5
        have hcn := hk5.cell (hk2.cell hcn0 (by simp)) (by simp)
        have hcl := hk5.cell (hk2.cell hcl0 (by simp)) (by simp)
        clear hown5 hA5 hq5 hcn0 hcl0
        go_wp2_with fail
        go_returns
        exact ⟨rfl, hk4.then hk5⟩
    · skip
      have HB : Hid (holdsB l ev names last = false ∧ holdsC l names last = 110) := Lib.hid ⟨by rw [HB1.out, if_neg (fun h => hk h.1)], by rw [HB2.out, if_neg hk]⟩
      rw [HB.out.1, HB.out.2]
      have d7 : (t.kind != 3) = true := by rw [bne_iff_ne]; exact hk
      have d8 : (t.kind == 3) = false := by rw [beq_eq_false_iff_ne]; exact hk
      obtain ⟨tk, htk⟩ : ∃ tk, t.kind = tk := ⟨_, rfl⟩
      have HTK := Lib.hid htk
      rw [htk] at d7 d8
      clear htk
      subst ho1 ho2 ho3
      clear hk HB1 HB2
      go_enter Tryz.func19, Tryz.ntmps19
      go_wp2_with fail
      refine HW.out.mono ?_
      rintro e w2 ⟨h, hk2⟩
      obtain ⟨O, a, h, hO, hB, hT⟩ := h.some_form
      subst h
      obtain ⟨op, sl, hnode⟩ := hT.node
      obtain ⟨_, _, _, _, _, _, _, c7⟩ := node_cells hnode
      rw [HTK.out] at c7
      clear hO hT hnode
      go_wp2_with fail
      go_returns
      exact ⟨rfl, hk3.then hk2⟩

end Go.Proofs.YtefcmijobbgpbaaGreatDoor
