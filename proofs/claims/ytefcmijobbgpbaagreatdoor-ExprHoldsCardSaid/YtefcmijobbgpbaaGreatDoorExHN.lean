/- Expressions: what the code of chapter 11 computes (ExHA ExHD ExHE ExHI). Conditions: those of each theorem. -/
import Derived.Test.YtefcmijobbgpbaaGreatDoorExLL
import Derived.Test.YtefcmijobbgpbaaGreatDoorExWC
import Derived.Test.YtefcmijobbgpbaaGreatDoorExHM
import Derived.Test.YtefcmijobbgpbaaGreatDoorExU

namespace Go.Proofs.YtefcmijobbgpbaaGreatDoor
open Go.RowKit

set_option maxHeartbeats 4000000 in
set_option maxRecDepth 100000 in
theorem refGet_any (ev : EvR) (m : Nat) (hm : m ≤ 5) (w : World) :
    Calls Tryz.prog 79 #[.agg #[.string ev.key, .string ev.typ, .int .i64 ev.n0, .int .i64 ev.n1, .int .i64 ev.n2, .int .i64 ev.n3, .string ev.text], .int .i64 m] w fun e w' => e = .returned (valAgg (evVal ev m)) ∧ Keeps [] w w' := by
  have hk0 := Keeps.refl [] w
  have hcase : m = 4 ∨ m = 5 ∨ m = 0 ∨ m = 1 ∨ m = 2 ∨ m = 3 := by omega
  obtain ⟨k, ty, a0, a1, a2, a3, tx⟩ := ev
  clear hm
  go_enter Tryz.func79, Tryz.ntmps79
  rcases hcase with rfl | rfl | rfl | rfl | rfl | rfl
  all_goals go_wp2_with fail
  all_goals refine ret_row1 rfl (w.heap.size + 1) _ _ _ _ rfl (heap_top (by simp)) Tryz.underlying110 rfl (by kernel_rfl) rfl ?_
  all_goals exact ⟨rfl, (hk0.alloc _).alloc _⟩

/-- As the document has it: of numbers, and of texts, and of truths. -/
def refTwo (k : Int) (a b : ValR) : ValR :=
  if k = 4 then .num (wrap64 (a.n + b.n))
  else if k = 5 then .num (wrap64 (a.n - b.n))
  else if k = 6 then .num (wrap64 (a.n * b.n))
  else if k = 7 then .truth (decide (a.n < b.n))
  else if k = 8 then .truth (decide (a.n ≤ b.n))
  else if k = 9 then .truth ((a.n == b.n) && (a.s.toList == b.s.toList))
  else if k = 10 then .truth ((a.n != b.n) || (a.s.toList != b.s.toList))
  else if k = 11 then .truth (a.ok && b.ok)
  else .truth (a.ok || b.ok)

set_option maxHeartbeats 8000000 in
set_option maxRecDepth 100000 in
theorem refTwo_any (k : Int) (hk : 4 ≤ k ∧ k ≤ 12) (a b : ValR) (w : World) :
    Calls Tryz.prog 80 #[.int .i64 k, valAgg a, valAgg b] w fun e w' => e = .returned (valAgg (refTwo k a b)) ∧ Keeps [] w w' := by
  have hk0 := Keeps.refl [] w
  have hc : k = 4 ∨ k = 5 ∨ k = 6 ∨ k = 7 ∨ k = 8 ∨ k = 9 ∨ k = 10 ∨ k = 11 ∨ k = 12 := by omega
  obtain ⟨an, sa, ab⟩ := a
  obtain ⟨bn, sb, bb⟩ := b
  rw [valAgg_eq, valAgg_eq]
  clear hk
  simp only
  rcases hc with rfl | rfl | rfl | rfl | rfl | rfl | rfl | rfl | rfl
  all_goals
    go_enter Tryz.func80, Tryz.ntmps80
    go_wp2_with fail
  all_goals refine ret_row1 rfl (w.heap.size + 1 + 1) _ _ _ _ rfl (heap_top (by simp)) Tryz.underlying110 rfl (by kernel_rfl) rfl ?_
  all_goals refine ⟨?_, ((hk0.alloc _).alloc _).alloc _⟩
  all_goals first
    | rfl
    | (simp_all [refTwo, valAgg, ValR.truth]; done)
    | (have e : an = bn := by assumption
       subst e
       simp [refTwo, valAgg, ValR.truth, bne]; done)
    | trace_state

end Go.Proofs.YtefcmijobbgpbaaGreatDoor

namespace Go.Proofs.YtefcmijobbgpbaaGreatDoor
open Go.RowKit

/-- As the document reckons. -/
def Ex.rval (get : ByteArray → Int → ValR) : Ex → ValR
  | .leaf p => if p.kind = 1 then .num p.n else if p.kind = 2 then .text p.s else get p.stage p.field
  | .neg _ a => .truth (!(a.rval get).ok)
  | .bin p a b => refTwo p.kind (a.rval get) (b.rval get)

theorem bytes_eq (a b : ByteArray) : (a.toList == b.toList) = decide (a.data.toList = b.data.toList) := by
  rw [ByteArray.toList_eq, ByteArray.toList_eq, Bool.eq_iff_iff]
  simp

theorem refTwo_eq {k : Int} {a b : ValR} (h : k = 9 ∨ k = 10 → a.ok = false ∧ b.ok = false) : refTwo k a b = twoM k a b := by
  unfold refTwo twoM
  split
  · rfl
  · split
    · rfl
    · split
      · rfl
      · split
        · rfl
        · split
          · rfl
          · split
            · rename_i h9
              obtain ⟨h1, h2⟩ := h (.inl h9)
              rw [bytes_eq, h1, h2]
              congr 1
              rw [Bool.eq_iff_iff]
              simp
            · split
              · rename_i h10
                obtain ⟨h1, h2⟩ := h (.inr h10)
                rw [h1, h2]
                congr 1
                have e : (a.s.toList != b.s.toList) = !decide (a.s.data.toList = b.s.data.toList) := by rw [bne, bytes_eq]
                rw [e, Bool.eq_iff_iff]
                simp
              · rfl

theorem val_plain {get : ByteArray → Int → ValR} (hget : ∀ s f, (get s f).ok = false) : ∀ {d : Nat} {x r : List PartR} {t : Ex}, growM d x = some (t, r) → (t.kind ≠ 3 → (t.rval get).ok = false) ∧ t.rval get = t.val get
  | 0, x, r, t, h => by simp [growM] at h
  | d + 1, [], r, t, h => by simp [growM] at h
  | d + 1, p :: x, r, t, h => by
    cases hm : isM p with
    | false => rw [growM_not hm] at h; cases h
    | true =>
      have hb := isM_bad_kind hm
      by_cases h3 : p.kind ≤ 3
      · rw [growM_leaf hm h3] at h
        cases h
        refine ⟨fun _ => ?_, rfl⟩
        simp only [Ex.rval]
        split
        · rfl
        · split
          · rfl
          · exact hget _ _
      · by_cases h13 : p.kind = 13
        · rw [growM_neg hm h13] at h
          cases hg : growM d x with
          | none => rw [hg] at h; cases h
          | some q =>
            obtain ⟨a, x1⟩ := q
            rw [hg] at h
            simp only [negM] at h
            split at h
            · cases h
              refine ⟨fun hk => absurd rfl hk, ?_⟩
              rw [Ex.rval, Ex.val, (val_plain hget hg).2]
            · cases h
        · rw [growM_bin hm (by omega) (by omega)] at h
          cases hg : growM d x with
          | none => rw [hg] at h; cases h
          | some q =>
            obtain ⟨a, x1⟩ := q
            rw [hg] at h
            simp only [binM] at h
            cases hg2 : growM d x1 with
            | none => rw [hg2] at h; cases h
            | some q2 =>
              obtain ⟨b, x2⟩ := q2
              rw [hg2] at h
              simp only [binM.bin2M] at h
              split at h
              · rename_i hc
                cases h
                obtain ⟨i1, i2⟩ := val_plain hget hg
                obtain ⟨j1, j2⟩ := val_plain hget hg2
                refine ⟨fun hk => ?_, ?_⟩
                · simp only [Ex.kind] at hk
                  have hcs : p.kind = 4 ∨ p.kind = 5 ∨ p.kind = 6 ∨ p.kind = 7 ∨ p.kind = 8 ∨ p.kind = 9 ∨ p.kind = 10 ∨ p.kind = 11 ∨ p.kind = 12 := by omega
                  simp only [Ex.rval]
                  rcases hcs with e | e | e | e | e | e | e | e | e <;> rw [e] at hk ⊢ <;> first | rfl | exact absurd rfl hk
                · rw [Ex.rval, Ex.val, refTwo_eq, i2, j2]
                  intro h910
                  have ho : (opAt p.kind).of_ ≠ 3 ∧ (opAt p.kind).other ≠ 3 := by
                    rcases h910 with e | e <;> rw [e] <;> decide
                  have ha3 : a.kind ≠ 3 := by
                    rcases hc.2 with e | e <;> rw [e]
                    · exact ho.1
                    · exact ho.2
                  exact ⟨i1 ha3, j1 (by rw [← hc.1]; exact ha3)⟩
              · cases h

end Go.Proofs.YtefcmijobbgpbaaGreatDoor

namespace Go.Proofs.YtefcmijobbgpbaaGreatDoor
open Go.RowKit

set_option maxHeartbeats 4000000 in
set_option maxRecDepth 100000 in
/-- A number or a text. -/
theorem reck_lit (x : List PartR) (at_ : Nat) (v vn vl : Value) (ev : EvR) (w : World) (hxl : x.length ≤ 200) (hA : ArgPart w v x) (p : PartR) (hp : x[at_]? = some p) (hk : p.kind = 1 ∨ p.kind = 2) (g : ByteArray → Int → ValR) :
    Calls Tryz.prog 53 #[v, .int .i64 (at_ : Int), .agg #[.string ev.key, .string ev.typ, .int .i64 ev.n0, .int .i64 ev.n1, .int .i64 ev.n2, .int .i64 ev.n3, .string ev.text], vn, vl] w fun e w' => e = .returned (.tuple #[valAgg ((Ex.leaf p).rval g), .int .i64 ((at_ : Int) + 1)]) ∧ Keeps [] w w' := by
  have hk0 := Keeps.refl [] w
  obtain ⟨ao, cap, rfl, _, h2⟩ := hA
  have hlt : at_ < x.length := by
    rcases Nat.lt_or_ge at_ x.length with h | h
    · exact h
    · rw [List.getElem?_eq_none h] at hp; cases hp
  obtain ⟨n, hn⟩ : ∃ n, x.length = n := ⟨_, rfl⟩
  rw [hn] at hlt hxl ⊢
  have b0 : (0 : Int) ≤ (at_ : Int) := by omega
  have b1 : (at_ : Int) < (n : Int) := by omega
  obtain ⟨bk, oo, hao, hsl, _, _⟩ := h2 (by intro e; rw [e] at hp; cases hp)
  subst hao
  obtain ⟨c0, c1, c2, c3, c4⟩ := hsl at_ p hp
  have wr1 : IntKind.i64.wrap ((at_ : Int) + 1) = (at_ : Int) + 1 := IntWalk.i64_in _ (by omega)
  obtain ⟨kd, pn, ps, st, f⟩ := p
  simp only at c0 c1 c2 c3 c4 hk
  have hk2 := (hk0.alloc (.cells #[.string ev.key, .string ev.typ, .int .i64 ev.n0, .int .i64 ev.n1, .int .i64 ev.n2, .int .i64 ev.n3, .string ev.text] 37 (0, 0))).alloc (.cells #[.int .i64 0, .string ⟨#[]⟩, .bool false] 110 (0, 0))
  have c0 := hk2.cell c0 (by simp)
  have c1 := hk2.cell c1 (by simp)
  have c2 := hk2.cell c2 (by simp)
  have c3 := hk2.cell c3 (by simp)
  have c4 := hk2.cell c4 (by simp)
  clear hp hsl h2 hn
  rcases hk with rfl | rfl
  all_goals
    go_enter Tryz.func53, Tryz.ntmps53
    go_wp2_with fail
  all_goals refine ret_row_val rfl (w.heap.size + 1) _ _ _ _ rfl (alloc_old (heap_top (by simp)) _) Tryz.underlying110 rfl (by kernel_rfl) rfl ?_
  all_goals exact ⟨rfl, ((hk0.alloc _).alloc _).alloc _⟩

/-- The event that a field is taken of, where the stages from j on were looked at. -/
def pickM (ev : EvR) (names : List ByteArray) (last : List EvR) (s : ByteArray) (j : Nat) : EvR := if idxFrom s (names.drop j) j < 0 then ev else last.getD (idxFrom s (names.drop j) j).toNat default

theorem pick_step {ev : EvR} {names : List ByteArray} {last : List EvR} {s : ByteArray} {j : Nat} {y : ByteArray} {e : EvR} (hy : names[j]? = some y) (he : last[j]? = some e) : pickM ev names last s j = if y.data.toList = s.data.toList then e else pickM ev names last s (j + 1) := by
  unfold pickM
  rw [idxFrom_step hy]
  split
  · rw [if_neg (by omega), Int.toNat_natCast, List.getD_eq_getElem?_getD, he]
    rfl
  · rfl

theorem pick_end (ev : EvR) (names : List ByteArray) (last : List EvR) (s : ByteArray) : pickM ev names last s names.length = ev := by
  unfold pickM
  rw [List.drop_length]
  rfl

end Go.Proofs.YtefcmijobbgpbaaGreatDoor

namespace Go.Proofs.YtefcmijobbgpbaaGreatDoor
open Go.RowKit

/-- Is a stage told, or none asked for? -/
def toldOne (L : List ByteArray) (s : ByteArray) : Bool := decide (s.data.toList = []) || L.any fun y => decide (y.data.toList = s.data.toList)
def toldM (names : List ByteArray) (l : List PartR) : Bool := l.all fun p => toldOne names p.stage

theorem told_has (L : List ByteArray) (s : ByteArray) : toldOne L s = (decide (s.data.toList = []) || hasM L s) := by
  unfold toldOne
  congr 1
  by_cases h : ∃ x ∈ L, x.data.toList = s.data.toList
  · rw [hasM_true h, List.any_eq_true]
    obtain ⟨x, hx, he⟩ := h
    exact ⟨x, hx, by simp [he]⟩
  · have h2 : ¬ hasM L s = true := fun h2 => h (idxFrom_mem L 0 (by simpa [hasM] using h2))
    rw [Bool.eq_iff_iff]
    constructor
    · intro h3
      obtain ⟨x, hx, he⟩ := List.any_eq_true.1 h3
      exact absurd ⟨x, hx, by simpa using he⟩ h
    · exact fun h3 => absurd h3 h2

theorem told_step {L : List ByteArray} {j : Nat} {y : ByteArray} (hy : L[j]? = some y) (s : ByteArray) : toldOne (L.take (j + 1)) s = (toldOne (L.take j) s || decide (y.data.toList = s.data.toList)) := by
  unfold toldOne
  rw [List.take_add_one, hy]
  simp [Bool.or_assoc]

theorem told_parts {names : List ByteArray} {l : List PartR} {k : Nat} {p : PartR} (hp : l[k]? = some p) : toldM names (l.take (k + 1)) = (toldM names (l.take k) && toldOne names p.stage) := by
  unfold toldM
  rw [List.take_add_one, hp]
  simp

theorem stagesFrom_from : ∀ (l : List PartR) (out : List ByteArray) (s : ByteArray), s ∈ stagesFrom l out → s ∈ out ∨ ∃ p ∈ l, s = p.stage ∧ ¬ p.stage.data.toList = []
  | [], _, _, h => .inl h
  | q :: r, out, s, h => by
    rw [stagesFrom] at h
    rcases stagesFrom_from r _ s h with h | ⟨p, hp, e⟩
    · split at h
      · exact .inl h
      · rename_i hne
        split at h
        · exact .inl h
        · rcases List.mem_append.1 h with h | h
          · exact .inl h
          · exact .inr ⟨q, by simp, by simpa using h, hne⟩
    · exact .inr ⟨p, by simp [hp], e⟩

theorem told_miss (names : List ByteArray) (l : List PartR) : toldM names l = !missM names (stagesM l) := by
  cases hm : missM names (stagesM l) with
  | false =>
    rw [Bool.not_false, toldM, List.all_eq_true]
    intro p hp
    rw [told_has]
    by_cases he : p.stage.data.toList = []
    · simp [he]
    · obtain ⟨s, hs, hse⟩ := (stages_cover l []).2 p hp he
      have hm0 : missFrom names (stagesM l) 0 < 0 := by
        have := of_decide_eq_false hm
        omega
      have hh := missFrom_all _ _ hm0 s hs
      rw [hasM, idxFrom_congr hse] at hh
      rw [hasM, hh, Bool.or_true]
  | true =>
    cases ht : toldM names l with
    | false => rfl
    | true =>
      exfalso
      have : missM names (stagesM l) = false := missM_of fun s hs => by
        rcases stagesFrom_from l [] s hs with h | ⟨p, hp, rfl, hne⟩
        · cases h
        · have := List.all_eq_true.1 ht p hp
          rw [told_has] at this
          simpa [hne] using this
      rw [this] at hm
      cases hm

/-- A field, as the document takes it. -/
def rGet (ev : EvR) (names : List ByteArray) (last : List EvR) (s : ByteArray) (f : Int) : ValR := if s.data.toList = [] then evVal ev f else evVal (pickM ev names last s 0) f

theorem evVal_ok (e : EvR) (f : Int) : (evVal e f).ok = false := by
  unfold evVal
  split
  · rfl
  · split <;> rfl

theorem rGet_ok (ev : EvR) (names : List ByteArray) (last : List EvR) (s : ByteArray) (f : Int) : (rGet ev names last s f).ok = false := by
  unfold rGet
  split <;> exact evVal_ok _ _

theorem rval_holds {l : List PartR} {t : Ex} (ev : EvR) {names : List ByteArray} {last : List EvR} (hw : wholeM l = some t) (hk : t.kind = 3) (hl : names.length = last.length) (ht : toldM names l = true) : (t.rval (rGet ev names last)).ok = holdsB l ev names last := by
  have hm : missM names (stagesM l) = false := by
    rw [told_miss] at ht
    simpa using ht
  rw [holdsB_names ev hw hk hl hm, (val_plain (rGet_ok ev names last) (wholeM_grow hw)).2]
  refine congrArg ValR.ok (Ex.val_congr t fun p hp => ?_)
  have hp : p ∈ l := by rw [(wholeM_parts hw).1]; exact hp
  unfold rGet getM
  split
  · rfl
  · rename_i hne
    have h1 := List.all_eq_true.1 ht p hp
    rw [told_has] at h1
    have h2 : 0 ≤ idxFrom p.stage names 0 := by simpa [hne, hasM] using h1
    unfold pickM
    rw [List.drop_zero, if_neg (by omega)]

end Go.Proofs.YtefcmijobbgpbaaGreatDoor
