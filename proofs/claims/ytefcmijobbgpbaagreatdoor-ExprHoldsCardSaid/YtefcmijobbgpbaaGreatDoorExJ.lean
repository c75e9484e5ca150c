/- grow, for any parts; whole; Check. Conditions: those of each theorem. -/
import Derived.Test.YtefcmijobbgpbaaGreatDoorExI
namespace Go.Proofs.YtefcmijobbgpbaaGreatDoor
open Go.RowKit

theorem growM_not {d : Nat} {p : PartR} {l : List PartR} (hm : isM p = false) : growM (d + 1) (p :: l) = none := by rw [growM, if_pos hm]
theorem growM_leaf {d : Nat} {p : PartR} {l : List PartR} (hm : isM p = true) (h3 : p.kind ≤ 3) : growM (d + 1) (p :: l) = some (.leaf p, l) := by rw [growM, if_neg (by rw [hm]; simp), if_pos h3]
theorem growM_nil (d : Nat) : growM d [] = none := by cases d <;> rfl
theorem growM_short {d : Nat} {p : PartR} (hm : isM p = true) (h4 : 4 ≤ p.kind) : growM (d + 1) [p] = none := by
  by_cases h13 : p.kind = 13
  · rw [growM_neg hm h13, growM_nil]
    rfl
  · rw [growM_bin hm h4 (by have := isM_bad_kind hm; omega), growM_nil]
    rfl

theorem cells_of {u w : World} {bk o : Nat} {p : PartR} {l : List PartR} (hs : PartSl u bk o (p :: l)) (k : Keeps [] u w) :
    w.cell? ⟨bk, o, none⟩ = some (.int .i64 p.kind) ∧ w.cell? ⟨bk, o + 1, none⟩ = some (.int .i64 p.n) ∧ w.cell? ⟨bk, o + 2, none⟩ = some (.string p.s) ∧ w.cell? ⟨bk, o + 3, none⟩ = some (.string p.stage) ∧ w.cell? ⟨bk, o + 4, none⟩ = some (.int .i64 p.field) := by
  obtain ⟨c0, c1, c2, c3, c4⟩ := hs 0 p rfl
  simp only [Nat.zero_mul, Nat.add_zero] at c0 c1 c2 c3 c4
  exact ⟨k.cell c0 (by simp), k.cell c1 (by simp), k.cell c2 (by simp), k.cell c3 (by simp), k.cell c4 (by simp)⟩

theorem grow_any (O : Nat) : ∀ (d : Nat), d ≤ 64 → ∀ l : List PartR, GrowIH O d l
  | d, _, [], u, v, w, h => by
    obtain ⟨ao, cap, rfl, _, _⟩ := h.arg
    refine (grow_nil O d ao cap w).mono ?_
    rintro e w' ⟨rfl, hk⟩
    rw [growM_nil]
    exact ⟨rfl, hk⟩
  | 0, _, p :: l, u, v, w, h => by
    obtain ⟨ao, cap, rfl, _, _⟩ := h.arg
    refine (grow_deep O l.length ao cap w).mono ?_
    rintro e w' ⟨rfl, hk⟩
    exact ⟨rfl, hk⟩
  | d + 1, hd, p :: l, u, v, w, h => by
    obtain ⟨ao, cap, rfl, _, h2⟩ := h.arg
    obtain ⟨bk, o, rfl, hs, hcl, hcm⟩ := h2 (by simp)
    obtain ⟨c0, c1, c2, c3, c4⟩ := cells_of hs h.keeps
    have hp := h.ok p (by simp)
    have hc : ((d + 1 : Nat) : Int) = (d : Int) + 1 := by omega
    rw [hc]
    simp only [List.length_cons] at hcl
    cases hm : isM p with
    | false =>
      refine (grow_not O d l.length p bk o cap w h.glob hp hm (by omega) hcl hcm c0 c1 c2 c3 c4).mono ?_
      rintro e w' ⟨rfl, hk⟩
      rw [growM_not hm]
      exact ⟨rfl, hk⟩
    | true =>
      have hb := isM_bad_kind hm
      by_cases h3 : p.kind ≤ 3
      · refine (grow_leaf O d l.length p bk o cap w h.glob hp hm (by omega) hcl hcm c0 c1 c2 c3 c4 (by omega)).mono ?_
        rintro e w' ⟨⟨a, v', rfl, hR, hT⟩, hk⟩
        rw [growM_leaf hm h3]
        exact ⟨⟨a, v', rfl, hT, hR.arg hs (by simpa using hcl) hcm⟩, hk⟩
      · match l, h, hs, hcl with
        | [], h, hs, hcl =>
          refine (grow_short O d p bk o cap w h.glob hp hm (by omega) (by simpa using hcl) hcm c0 c1 c2 c3 c4 (by omega)).mono ?_
          rintro e w' ⟨rfl, hk⟩
          rw [growM_short hm (by omega)]
          exact ⟨rfl, hk⟩
        | q :: l, h, hs, hcl =>
          simp only [List.length_cons] at hcl
          have hok : ∀ x ∈ q :: l, x.ok := fun x hx => h.ok x (List.mem_cons_of_mem _ hx)
          by_cases h13 : p.kind = 13
          · exact grow_neg O d l.length p (q :: l) rfl (grow_any O d (by omega) (q :: l)) bk o cap u w h.keeps h.glob h.ops hok hp hm (by omega) (by omega) hs hcm c0 c1 c2 c3 c4 h13
          · exact grow_bin O d l.length p (q :: l) rfl (fun l' => grow_any O d (by omega) l') bk o cap u w h.keeps h.glob h.ops hok hp hm (by omega) (by omega) hs hcm c0 c1 c2 c3 c4 (by omega) (by omega)

/-! ### whole -/
def WholeOut (B : Nat) (r : Option Ex) (e : Ending) (w' : World) : Prop :=
  match r with
  | none => e = .returned (.pointer none)
  | some t => ∃ O a, e = .returned (.pointer (some ⟨a, 0, none⟩)) ∧ OpsAt w' O ∧ B ≤ O ∧ TreeAt w' O B t a

theorem WholeOut.none_form {B : Nat} {e : Ending} {w' : World} (h : WholeOut B none e w') : e = .returned (.pointer none) := h
theorem WholeOut.some_form {B : Nat} {t : Ex} {e : Ending} {w' : World} (h : WholeOut B (some t) e w') : ∃ O a, e = .returned (.pointer (some ⟨a, 0, none⟩)) ∧ OpsAt w' O ∧ B ≤ O ∧ TreeAt w' O B t a := h

theorem wholeM_long {l : List PartR} (h : 200 < l.length) : wholeM l = none := by rw [wholeM, if_pos h]
theorem wholeM_none {l : List PartR} (h : growM 32 l = none) : wholeM l = none := by
  unfold wholeM
  rw [h]
  split <;> rfl
theorem wholeM_rest {l : List PartR} {t : Ex} {q : PartR} {r : List PartR} (h : growM 32 l = some (t, q :: r)) : wholeM l = none := by
  unfold wholeM
  rw [h]
  split <;> rfl
theorem wholeM_some {l : List PartR} {t : Ex} (hl : ¬ 200 < l.length) (h : growM 32 l = some (t, [])) : wholeM l = some t := by rw [wholeM, if_neg hl, h]

set_option maxHeartbeats 4000000 in
set_option maxRecDepth 100000 in
theorem whole_any (l : List PartR) (v : Value) (w : World) (hG : GlobX w) (hok : ∀ x ∈ l, x.ok) (hA : ArgPart w v l) :
    Calls Tryz.prog 25 #[v] w fun e w' => WholeOut w.heap.size (wholeM l) e w' ∧ Keeps [] w w' := by
  have hk0 := Keeps.refl [] w
  have hk1 := hk0.alloc (.cells opsCells 105)
  have HOps := Lib.hid (operations_any w)
  have hO : OpsAt (w.alloc (.cells opsCells 105)) w.heap.size := heap_alloc_new w _
  have HGr := Lib.hid (grow_any w.heap.size 32 (by decide) l w v (w.alloc (.cells opsCells 105)) ⟨hk1, hG.keep hk1, hok, hO, hA⟩)
  have HO := Lib.hid hO
  obtain ⟨ao, cap, rfl, _, _⟩ := hA
  obtain ⟨n, hn⟩ : ∃ n, l.length = n := ⟨_, rfl⟩
  clear hO hok hG
  by_cases h200 : 200 < n
  · have HR := Lib.hid (wholeM_long (l := l) (by omega))
    have d1 : decide ((n : Int) > 200) = true := by simp; omega
    rw [hn] at HGr ⊢
    clear hn
    go_enter Tryz.func25, Tryz.ntmps25
    go_wp2_with fail
    go_returns
    exact ⟨by rw [HR.out]; rfl, hk0⟩
  · have d1 : decide ((n : Int) > 200) = false := by simp; omega
    have HL := Lib.hid (show ¬ 200 < l.length by omega)
    rw [hn] at HGr ⊢
    clear hn
    cases hg : growM 32 l with
    | none =>
      rw [hg] at HGr
      have HR := Lib.hid (wholeM_none hg)
      clear hg
      go_enter Tryz.func25, Tryz.ntmps25
      go_wp2_with (first | (go_at_call 41; refine HOps.out.mono ?_; rintro e w1 ⟨rfl, rfl⟩) | (go_at_call 40; refine HGr.out.mono ?_; rintro e w2 ⟨h, hk2⟩; have h := h.none_form; subst h))
      go_returns
      exact ⟨by rw [HR.out]; rfl, hk1.then hk2⟩
    | some q =>
      obtain ⟨t, r⟩ := q
      rw [hg] at HGr
      cases r with
      | nil =>
        have HR := Lib.hid (wholeM_some HL.out hg)
        clear hg
        go_enter Tryz.func25, Tryz.ntmps25
        go_wp2_with (first | (go_at_call 41; refine HOps.out.mono ?_; rintro e w1 ⟨rfl, rfl⟩) | (go_at_call 40; refine HGr.out.mono ?_; rintro e w2 ⟨h, hk2⟩; obtain ⟨a, v', h, hT, hA'⟩ := h.some_form; subst h; obtain ⟨ao', cap', rfl, _, _⟩ := hA'; simp only [List.length_nil]))
        go_returns
        exact ⟨by rw [HR.out]; exact ⟨_, a, rfl, HO.out.keep hk2 (by simp), Nat.le_refl _, hT.mono (by simp)⟩, hk1.then hk2⟩
      | cons p r =>
        have HR := Lib.hid (wholeM_rest hg)
        have d2 : decide (((r.length : Int) + 1) > 0) = true := by simp <;> omega
        clear hg
        go_enter Tryz.func25, Tryz.ntmps25
        go_wp2_with (first | (go_at_call 41; refine HOps.out.mono ?_; rintro e w1 ⟨rfl, rfl⟩) | (go_at_call 40; refine HGr.out.mono ?_; rintro e w2 ⟨h, hk2⟩; obtain ⟨a, v', h, hT, hA'⟩ := h.some_form; subst h; obtain ⟨ao', cap', rfl, _, _⟩ := hA'; simp only [List.length_cons]))
        go_returns
        exact ⟨by rw [HR.out]; rfl, hk1.then hk2⟩

/-! ### Check -/
def checkK (x : List PartR) : Int := match wholeM x with
  | none => 0
  | some t => t.kind
def checkE (x : List PartR) : Int := match wholeM x with
  | none => 110
  | some _ => 0

set_option maxHeartbeats 4000000 in
set_option maxRecDepth 100000 in
theorem check_any (l : List PartR) (v : Value) (w : World) (hG : GlobX w) (hok : ∀ x ∈ l, x.ok) (hA : ArgPart w v l) :
    Calls Tryz.prog 9 #[v] w fun e w' => e = .returned (.tuple #[.int .i64 (checkK l), .int .i64 (checkE l)]) ∧ Keeps [] w w' := by
  have HW := Lib.hid (whole_any l v w hG hok hA)
  obtain ⟨ao, cap, rfl, _, _⟩ := hA
  unfold checkK checkE
  cases hw : wholeM l with
  | none =>
    rw [hw] at HW
    go_enter Tryz.func9, Tryz.ntmps9
    go_wp2_with (go_at_call 25; refine HW.out.mono ?_; rintro e w2 ⟨h, hk2⟩; have h := h.none_form; subst h)
    go_returns
    exact ⟨rfl, hk2⟩
  | some t =>
    rw [hw] at HW
    clear hw
    go_enter Tryz.func9, Tryz.ntmps9
    go_wp2_with (go_at_call 25; refine HW.out.mono ?_; rintro e w2 ⟨h, hk2⟩; obtain ⟨O, a, h, hO, hB, hT⟩ := h.some_form; subst h; obtain ⟨op, sl, hn⟩ := hT.node; obtain ⟨_, _, _, _, _, _, _, c7⟩ := node_cells hn)
    go_returns
    exact ⟨rfl, hk2⟩

end Go.Proofs.YtefcmijobbgpbaaGreatDoor
