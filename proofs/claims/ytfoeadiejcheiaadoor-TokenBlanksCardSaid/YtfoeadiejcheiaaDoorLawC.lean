/- The law TokenJoins, walked. Conditions: those of each theorem. -/
import Derived.Test.YtfoeadiejcheiaaDoorLawB
namespace Go.Proofs.YtfoeadiejcheiaaDoor
open Go.RowKit

set_option maxHeartbeats 2000000 in
set_option maxRecDepth 100000 in
theorem same_none (ao ao' : Option Addr) (cap cap' : Nat) (w : World) :
    Calls Tryd.prog 9 #[.slice ao 0 cap, .slice ao' 0 cap'] w fun e w' => e = .returned (.bool true) ∧ Keeps [] w w' := by
  have hk0 := Keeps.refl [] w
  go_enter Tryd.func9, Tryd.ntmps9
  go_wp2_with fail
  go_loopw [5] (fun i wr => i = .int .i64 0 ∧ wr = w) (fun _ _ => 0)
  case atStart => exact ⟨rfl, rfl⟩
  case round =>
    obtain ⟨rfl, rfl⟩ := hrel
    go_wp2_with fail
    go_returns
    exact ⟨rfl, hk0⟩

/-- A slice of tokens that is an argument. -/
def ArgTok (w : World) (v : Value) (l : List TokR) : Prop :=
  ∃ ao cap, v = .slice ao l.length cap ∧ (ao = none → cap = 0 ∧ l = []) ∧ (l ≠ [] → ∃ bk o, ao = some ⟨bk, o, none⟩ ∧ TokSl w bk o l ∧ l.length ≤ cap ∧ cap ≤ 9223372036854775807)

theorem TokSl.row {w : World} {bk o : Nat} {l : List TokR} (h : TokSl w bk o l) (j : Nat) (u : Value) (hu : (rowOf l)[j]? = some u) : w.cell? ((⟨bk, o, none⟩ : Addr).add j) = some u := by
  have hj : j < l.length * 4 := by
    rcases Nat.lt_or_ge j (l.length * 4) with h | h
    · exact h
    · rw [List.getElem?_eq_none (by rw [rowOf_length]; exact h)] at hu; cases hu
  have hq : j / 4 < l.length := by omega
  have hx : l[j / 4]? = some l[j / 4] := List.getElem?_eq_getElem hq
  have h2 := rowOf_at l (j / 4) _ hx
  have h3 := h (j / 4) _ hx
  rw [addr_add]
  have hc : j % 4 = 0 ∨ j % 4 = 1 ∨ j % 4 = 2 ∨ j % 4 = 3 := by omega
  rcases hc with hc | hc | hc | hc
  · have e : j = j / 4 * 4 := by omega
    rw [e] at hu ⊢
    rw [h2.1] at hu
    cases hu
    exact h3.1
  · have e : j = j / 4 * 4 + 1 := by omega
    rw [e] at hu ⊢
    rw [h2.2.1] at hu
    cases hu
    exact h3.2.1
  · have e : j = j / 4 * 4 + 2 := by omega
    rw [e] at hu ⊢
    rw [h2.2.2.1] at hu
    cases hu
    exact h3.2.2.1
  · have e : j = j / 4 * 4 + 3 := by omega
    rw [e] at hu ⊢
    rw [h2.2.2.2] at hu
    cases hu
    exact h3.2.2.2

theorem ArgTok.keep {w w' : World} {v : Value} {l : List TokR} (h : ArgTok w v l) (k : Keeps [] w w') : ArgTok w' v l := by
  obtain ⟨ao, cap, rfl, h1, h2⟩ := h
  refine ⟨ao, cap, rfl, h1, fun hne => ?_⟩
  obtain ⟨bk, o, rfl, h3, h4⟩ := h2 hne
  exact ⟨bk, o, rfl, h3.keep k, h4⟩

theorem ArgTok.slc {w : World} {v : Value} {l : List TokR} (h : ArgTok w v l) : SlC w v l.length 4 (rowOf l) := by
  obtain ⟨ao, cap, rfl, h1, h2⟩ := h
  refine ⟨ao, cap, rfl, rowOf_length l, fun h => ⟨by rw [(h1 h).2]; rfl, (h1 h).1⟩, fun b hb j u hu => ?_⟩
  by_cases hne : l = []
  · subst hne; cases hu
  · obtain ⟨bk, o, rfl, h3, h4⟩ := h2 hne
    cases hb
    exact h3.row j u hu

/-- What is owned serves as an argument. -/
theorem ArgTok.of_own {w : World} {base cp n : Nat} {ao : Option Addr} {l : List TokR} (h : w.ownsRow base 34 4 (.slice ao n cp) n (rowOf l)) (hn : l.length = n) : ArgTok w (.slice ao n cp) l := by
  subst hn
  refine ⟨ao, cp, rfl, fun h0 => ?_, fun hne => ?_⟩
  · rcases h.2 with ⟨he, h0'⟩ | ⟨g, cap, cur, he, _⟩
    · obtain ⟨_, _, e3⟩ := Value.slice.inj he
      exact ⟨e3, List.eq_nil_of_length_eq_zero h0'⟩
    · rw [h0] at he
      obtain ⟨e1, _, _⟩ := Value.slice.inj he
      cases e1
  · obtain ⟨g, rfl, hb, hT, h1, h2⟩ := own_toks h rfl hne
    exact ⟨g, 0, rfl, hT, h1, h2⟩

theorem join_arg {l : List TokR} {v : Value} (w : World) (hG : Glob w) (hok : ∀ x ∈ l, x.ok) (h : ArgTok w v l) :
    Calls Tryd.prog 7 #[v] w fun e w' => JoinOut (joinM l) e ∧ Keeps [] w w' := by
  obtain ⟨ao, cap, rfl, h1, h2⟩ := h
  by_cases hne : l = []
  · subst hne; exact join_none ao cap w
  · obtain ⟨bk, o, rfl, h3, h4, h5⟩ := h2 hne
    exact join_some l bk o cap w hG hok h3 h4 h5 hne

theorem refJoin_arg {l : List TokR} {v : Value} (w : World) (hok : ∀ x ∈ l, x.ok) (h : ArgTok w v l) :
    Calls Tryd.prog 8 #[v] w fun e w' => JoinOut (joinM l) e ∧ Keeps [] w w' := by
  obtain ⟨ao, cap, rfl, h1, h2⟩ := h
  by_cases hne : l = []
  · subst hne; exact refJoin_none ao cap w
  · obtain ⟨bk, o, rfl, h3, h4, h5⟩ := h2 hne
    exact refJoin_some l bk o cap w hok h3 h4 h5 hne

theorem same_arg {l : List TokR} {v v' : Value} (w : World) (h : ArgTok w v l) (h' : ArgTok w v' l) :
    Calls Tryd.prog 9 #[v, v'] w fun e w' => e = .returned (.bool true) ∧ Keeps [] w w' := by
  obtain ⟨ao, cap, rfl, h1, h2⟩ := h
  obtain ⟨ao', cap', rfl, h1', h2'⟩ := h'
  by_cases hne : l = []
  · subst hne; exact same_none ao ao' cap cap' w
  · obtain ⟨bk, o, rfl, h3, h4, h5⟩ := h2 hne
    obtain ⟨bk', o', rfl, h3', h4', h5'⟩ := h2' hne
    exact same_any l bk o cap bk' o' cap' w h3 h3' h4 h5

def joinS : Except Int (List UInt8) → ByteArray
  | .ok b => ⟨b.toArray⟩
  | .error _ => ⟨#[]⟩
def joinC : Except Int (List UInt8) → Int
  | .ok _ => 0
  | .error c => c
theorem JoinOut.form {r : Except Int (List UInt8)} {e : Ending} (h : JoinOut r e) : e = .returned (.tuple #[.string (joinS r), .int .i64 (joinC r)]) := by
  cases r <;> exact h

theorem rowOf_one (l : List TokR) : ∀ u ∈ rowOf l, u.oneCell' = true := by
  intro u hu
  obtain ⟨x, _, hx⟩ := List.mem_flatMap.1 hu
  simp at hx
  rcases hx with rfl | rfl | rfl | rfl <;> rfl

set_option maxHeartbeats 4000000 in
set_option maxRecDepth 100000 in
theorem tokenJoins_any (l : List TokR) (v : Value) (w : World) (hG : Glob w) (hok : ∀ x ∈ l, x.ok) (hv : ArgTok w v l) (hl : l.length * 40 ≤ 140737488355328) :
    Calls Tryd.prog 3 #[v] w fun e w' => e = .returned (.bool true) ∧ Keeps [] w w' := by
  have hk0 := Keeps.refl [] w
  have HG := Lib.hid hG
  have HV := Lib.hid hv
  have HO := Lib.hid hok
  clear hG hv hok
  go_enter Tryd.func3, Tryd.ntmps3
  go_wp2_with (at_builtin; refine list_append_any rtTok (by rfl) _ _ (by rfl) w.heap.size _ 0 [] (by rfl) ⟨rfl, .inr ⟨w.heap.size, 0, #[], rfl, Nat.le_refl _, heap_alloc_new _ _, Nat.le_refl _, Nat.zero_le _, rfl, rfl⟩⟩ v l.length (rowOf l) (by rfl) (HV.out.keep (hk0.alloc _)).slc (rowOf_one l) (by omega) (by unfold maxLen; omega) (by simp) ?_; intro ao cp w1 hown hgrow hat hnil; have HW := Lib.hid hown; clear hown; have hk1 : Keeps [] w w1 := (hk0.alloc _).grown hgrow (fun k h => .inr (by cases h; exact Nat.le_refl _)))
  have hA : ArgTok w1 (.slice ao l.length cp) l := by
    have h := HW.out
    rw [Nat.zero_add, List.nil_append] at h
    exact .of_own h rfl
  clear hat hnil hgrow HW
  refine (join_arg w1 (HG.out.keep hk1) HO.out hA).mono ?_
  rintro e w2 ⟨h2, hk2⟩
  have h2 := h2.form
  obtain ⟨R, hR⟩ : ∃ R : ByteArray, R = joinS (joinM l) := ⟨_, rfl⟩
  obtain ⟨c, hc⟩ : ∃ c : Int, c = joinC (joinM l) := ⟨_, rfl⟩
  rw [← hR, ← hc] at h2
  subst h2
  have hkb := hk1.then hk2
  have hA2 := hA.keep hk2
  have HR := Lib.hid (And.intro hR hc)
  clear hR hc hA hk2
  go_wp2_with fail
  refine (refJoin_arg w2 HO.out (HV.out.keep hkb)).mono ?_
  rintro e w3 ⟨h3, hk3⟩
  have h3 := h3.form
  rw [← HR.out.1, ← HR.out.2] at h3
  subst h3
  have hkc := hkb.then hk3
  have hA3 := hA2.keep hk3
  have HS := Lib.hid (same_arg w3 hA3 (HV.out.keep hkc))
  clear hA2 hk3 hA3 HR
  have HWk := fun w hG => Lib.hid (works_any w hG)
  go_wp2_with (first
    | (go_at_call 9; refine HS.out.mono ?_; rintro e w4 ⟨rfl, hk4⟩)
    | (go_at_call 10; refine (HWk _ (HG.out.keep (hkc.then hk4))).out.mono ?_; rintro e w5 ⟨rfl, hk5⟩))
  go_returns
  exact ⟨rfl, (hkc.then hk4).then hk5⟩

end Go.Proofs.YtfoeadiejcheiaaDoor
