/- From a call that returns true and keeps all old blocks to the row of a law. -/
import Derived.Test.YtefcmijobbgpbaaGreatDoorRows
import Derived.Test.YtefcmijobbgpbaaGreatDoorT0
import Derived.ProofKit
namespace Go.Proofs.YtefcmijobbgpbaaGreatDoor
open Go.ChangeShapes Go.WideShapes Go.ChangeAt Go.RowKit

theorem Tryz.own : ownKnob Tryz.prog.godebug = none := by kernel_rfl
theorem Tryz.laidOut : laidOutB Tryz.prog = true := by kernel_rfl

theorem trodAll_stays {H : Type} {enc : TypeId × Value → H} {P : Program} (hl : laidOutB P = true) {W W' : World} (hb : Below W.heap.size W W') {sp : Nat → Bool} :
    ∀ (ts : List TypeId) (vs : List Value) (ds : List (DataW H)) (ps : List MemPlace), (∀ t ∈ ts, P.readableRec t = true ∧ t < P.types.size) → DataW.TrodAll enc P W 0 (fun _ => true) true ts vs ds ps →
      (∀ x ∈ ps, x.block < W.heap.size) → (∀ x ∈ ps, sp x.block = true) → DataW.TrodAll enc P W' 0 sp true ts vs ds ps
  | [], [], [], ps, _, h, _, _ => h
  | t :: ts, v :: vs, d :: ds, ps, ht, h, hlt, hsp => by
    obtain ⟨p, q, h1, h2, rfl⟩ := h
    refine ⟨p, q, WideElems.Trod_stays hl (ht t (by simp)).1 (ht t (by simp)).2 h1 (fun x hx => hb.same (hlt x (by simp [hx]))) (fun x hx => hsp x (by simp [hx])), ?_, rfl⟩
    exact trodAll_stays hl hb ts vs ds q (fun t' h' => ht t' (by simp [h'])) h2 (fun x hx => hlt x (by simp [hx])) (fun x hx => hsp x (by simp [hx]))
  | [], [], _ :: _, _, _, h, _, _ => h.elim
  | [], _ :: _, _, _, _, h, _, _ => h.elim
  | _ :: _, [], _, _, _, h, _, _ => h.elim
  | _ :: _, _ :: _, [], _, _, h, _, _ => h.elim

theorem law_post {H : Type} {enc : TypeId × Value → H} {P : Program} {f : Func} {s : ChangeSpec} {apart fresh handsOn again : Bool} {W W' : World} {args : Array Value} {ds : List (DataW H)} {before : List MemPlace} {tb : TypeId}
    (hl : laidOutB P = true) (hbool : P.underlying tb = some .bool) (hr : f.resultTypes = #[tb]) (hts0 : f.params.toList.all (fun t => P.readableRec t && decide (t < P.types.size)) = true)
    (hvars : s.vars = []) (hfn : (s.fn H ds).results = [.lit (.bool true)] ∧ (s.fn H ds).args = ds ∧ (s.fn H ds).vars = [])
    (hW : DataW.Whole enc P f.params.toList s.vars apart W args.toList ds [] before) (hb : Below W.heap.size W W') : s.post enc P f apart fresh handsOn again W args (.bool true) W' := by
  have hts : ∀ t ∈ f.params.toList, P.readableRec t = true ∧ t < P.types.size := fun t ht => by
    have := List.all_eq_true.1 hts0 t ht
    simpa using this
  have hlt := hW.lt
  have hW0 := hW
  obtain ⟨p, q, h1, h2, rfl, hz, hn⟩ := hW0
  rw [hvars] at h2
  have hq : q = [] := h2
  subst hq
  have hres : ∀ (b : Nat) (sp : Nat → Bool) (hd : Bool), DataW.TrodAll enc P W' b sp hd f.resultTypes.toList ((Value.bool true).resultList f.resultTypes.size) (s.fn H (ds ++ [])).results [] := by
    intro b sp hd
    rw [List.append_nil, hfn.1, hr]
    exact ⟨[], [], shut_bool hbool true, rfl, rfl⟩
  have hargs : ∀ sp : Nat → Bool, (∀ x ∈ p, sp x.block = true) → DataW.TrodAll enc P W' 0 sp true f.params.toList args.toList (s.fn H (ds ++ [])).args p := by
    intro sp hsp
    rw [List.append_nil, hfn.2.1]
    exact trodAll_stays hl hb _ _ _ _ hts h1 (fun x hx => hlt x (by simp [hx])) hsp
  have hva : ∀ sp : Nat → Bool, DataW.TrodVars enc P W' sp s.vars (s.fn H (ds ++ [])).vars [] := by
    intro sp
    rw [List.append_nil, hfn.2.2, hvars]
    rfl
  refine ⟨ds, [], p ++ [], [], p, [], hW, hres _ _ _, hargs _ (fun x hx => by simpa using hlt x (by simp [hx])), hva _, ?_, fun _ => ?_⟩
  · exact World.keptBut_mono (fun x hx => hx) (hb.frame _)
  · refine ⟨?_, _, _, ([] ++ p) ++ [], ⟨[] ++ p, [], trodAll_append (hargs _ (fun _ _ => rfl)) (hres _ _ _), hva _, rfl, ?_, ?_⟩, ?_⟩
    · exact ok_one hr rfl (okWide_bool_mk hbool true)
    · intro b off hp
      have hp' : MemPlace.cell b off ∈ p := by simpa using hp
      rw [hb.frozen (p := ⟨b, off, none⟩) (hlt (.cell b off) (by simpa using hp'))]
      exact hz b off (by simpa using hp')
    · intro ha
      simpa using hn ha
    · intro x hx _
      simpa using hx

/-- What a []string that came in is. -/
theorem arg_strings {H : Type} {enc : TypeId × Value → H} {P : Program} {W : World} {t e : TypeId} {v : Value} {d : DataW H} {ps : List MemPlace} (ht : P.underlying t = some (.slice e)) (he : P.underlying e = some .string) (hc : P.cellsOf e = 1)
    (hw : Value.okWide P W .any 0 t v) (h : DataW.Trod enc P W 0 (fun _ => true) true t v d ps) :
    ∃ (ao : Option Addr) (n c b o : Nat) (L : List ByteArray), v = .slice ao n c ∧ L.length = n ∧ n ≤ maxLen ∧ ∀ (k : Nat) (s : ByteArray), L[k]? = some s → ao = some ⟨b, o, none⟩ ∧ W.cell? ⟨b, o + k, none⟩ = some (.string s) ∧ s.size ≤ maxLen := by
  obtain ⟨ao, n, c, rfl⟩ := okWide_slice ht hw
  obtain ⟨fuel, h⟩ := h
  rcases open_strings ht he hc h with ⟨hcs, hx⟩ | ⟨a, len, cap, ss, hcs, _, hl, hm, hz, hx, hcell, hws⟩
  · simp only [Value.cells, List.cons.injEq, and_true, Value.slice.injEq] at hcs
    obtain ⟨rfl, rfl, rfl⟩ := hcs
    exact ⟨none, 0, 0, 0, 0, [], rfl, rfl, Nat.zero_le _, by simp⟩
  · simp only [Value.cells, List.cons.injEq, and_true, Value.slice.injEq] at hcs
    obtain ⟨rfl, rfl, rfl⟩ := hcs
    simp only [if_true] at hz
    refine ⟨some a, n, c, a.block, a.off, ss.take n, rfl, by simp; omega, by omega, fun k s hk => ?_⟩
    rw [List.getElem?_take] at hk
    split at hk
    · rename_i hkn
      have h1 := hcell k (by omega)
      rw [List.getD_eq_getElem?_getD, hk, Option.getD_some] at h1
      have h0 := hcell 0 (by omega)
      have hs : a.spot = none := by
        have : a.add 0 = a := by simp [Addr.add]
        rw [this] at h0
        simp only [World.cell?] at h0
        cases hsp : a.spot with
        | none => rfl
        | some y => simp [hsp] at h0; split at h0 <;> simp_all
      have ha : a = ⟨a.block, a.off, none⟩ := by rw [← hs]
      refine ⟨by rw [← ha], ?_, hws s (List.mem_of_getElem? hk)⟩
      rw [ha] at h1
      have hadd := addr_add a.block a.off k
      rw [hadd] at h1
      exact h1
    · cases hk

/-- What a []int that came in is. -/
theorem arg_ints {H : Type} {enc : TypeId × Value → H} {P : Program} {W : World} {t e : TypeId} {v : Value} {d : DataW H} {ps : List MemPlace} (ht : P.underlying t = some (.slice e)) (he : P.underlying e = some (.int .i64)) (hc : P.cellsOf e = 1)
    (hw : Value.okWide P W .any 0 t v) (h : DataW.Trod enc P W 0 (fun _ => true) true t v d ps) :
    ∃ (ao : Option Addr) (n c b o : Nat) (L : List Int), v = .slice ao n c ∧ L.length = n ∧ n ≤ maxLen ∧ ∀ (k : Nat) (x : Int), L[k]? = some x → ao = some ⟨b, o, none⟩ ∧ W.cell? ⟨b, o + k, none⟩ = some (.int .i64 x) ∧ -9223372036854775808 ≤ x ∧ x ≤ 9223372036854775807 := by
  obtain ⟨ao, n, c, rfl⟩ := okWide_slice ht hw
  obtain ⟨fuel, h⟩ := h
  rcases open_ints ht he hc h with ⟨hcs, hx⟩ | ⟨a, len, cap, ss, hcs, _, hl, hm, hz, hx, hcell, hws⟩
  · simp only [Value.cells, List.cons.injEq, and_true, Value.slice.injEq] at hcs
    obtain ⟨rfl, rfl, rfl⟩ := hcs
    exact ⟨none, 0, 0, 0, 0, [], rfl, rfl, Nat.zero_le _, by simp⟩
  · simp only [Value.cells, List.cons.injEq, and_true, Value.slice.injEq] at hcs
    obtain ⟨rfl, rfl, rfl⟩ := hcs
    simp only [if_true] at hz
    refine ⟨some a, n, c, a.block, a.off, ss.take n, rfl, by simp; omega, by omega, fun k s hk => ?_⟩
    rw [List.getElem?_take] at hk
    split at hk
    · rename_i hkn
      have h1 := hcell k (by omega)
      rw [List.getD_eq_getElem?_getD, hk, Option.getD_some] at h1
      have h0 := hcell 0 (by omega)
      have hs : a.spot = none := by
        have : a.add 0 = a := by simp [Addr.add]
        rw [this] at h0
        simp only [World.cell?] at h0
        cases hsp : a.spot with
        | none => rfl
        | some y => simp [hsp] at h0; split at h0 <;> simp_all
      have ha : a = ⟨a.block, a.off, none⟩ := by rw [← hs]
      have hwf := hws s (List.mem_of_getElem? hk)
      refine ⟨by rw [← ha], ?_, ?_⟩
      · rw [ha] at h1
        have hadd := addr_add a.block a.off k
        rw [hadd] at h1
        exact h1
      · have h2 : IntKind.i64.min ≤ s ∧ s ≤ IntKind.i64.max := by simpa [Lit.wf, decide_eq_true_eq] using hwf
        have e1 : IntKind.i64.min = -9223372036854775808 := by decide
        have e2 : IntKind.i64.max = 9223372036854775807 := by decide
        rw [e1, e2] at h2
        exact h2
    · cases hk

end Go.Proofs.YtefcmijobbgpbaaGreatDoor
