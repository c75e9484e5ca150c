/- grow: an expression put together. Conditions: those of each theorem. -/
import Derived.Test.YtefcmijobbgpbaaGreatDoorExC
import Derived.Test.YtefcmijobbgpbaaGreatDoorExE
namespace Go.Proofs.YtefcmijobbgpbaaGreatDoor
open Go.RowKit

def GrowOut (O : Nat) (u : World) (B : Nat) (r : Option (Ex × List PartR)) (e : Ending) (w' : World) : Prop :=
  match r with
  | none => e = .returned (.tuple #[.pointer none, .slice none 0 0])
  | some (t, rest) => ∃ a v', e = .returned (.tuple #[.pointer (some ⟨a, 0, none⟩), v']) ∧ TreeAt w' O B t a ∧ ArgPart u v' rest

/-- What is asked of what grow is called with. -/
structure GrowIn (O : Nat) (u w : World) (v : Value) (l : List PartR) : Prop where
  keeps : Keeps [] u w
  glob : GlobX w
  ok : ∀ x ∈ l, x.ok
  ops : OpsAt w O
  arg : ArgPart u v l

theorem isM_bad_kind {p : PartR} (h : isM p = true) : 1 ≤ p.kind ∧ p.kind ≤ 13 := by
  unfold isM at h
  split at h
  · omega
  · split at h
    · omega
    · split at h
      · omega
      · simp only [Bool.and_eq_true, decide_eq_true_eq] at h
        omega

set_option maxHeartbeats 2000000 in
set_option maxRecDepth 100000 in
theorem grow_nil (O d : Nat) (ao : Option Addr) (cap : Nat) (w : World) :
    Calls Tryz.prog 40 #[.slice ao 0 cap, .slice (some ⟨O, 0, none⟩) 9 9, .int .i64 d] w fun e w' => e = .returned (.tuple #[.pointer none, .slice none 0 0]) ∧ Keeps [] w w' := by
  have hk0 := Keeps.refl [] w
  go_enter Tryz.func40, Tryz.ntmps40
  go_wp2_with fail
  go_returns
  exact ⟨rfl, hk0⟩

set_option maxHeartbeats 2000000 in
set_option maxRecDepth 100000 in
theorem grow_deep (O n : Nat) (ao : Option Addr) (cap : Nat) (w : World) :
    Calls Tryz.prog 40 #[.slice ao (n + 1) cap, .slice (some ⟨O, 0, none⟩) 9 9, .int .i64 0] w fun e w' => e = .returned (.tuple #[.pointer none, .slice none 0 0]) ∧ Keeps [] w w' := by
  have hk0 := Keeps.refl [] w
  have d1 : (((n : Int) + 1) == 0) = false := by rw [beq_eq_false_iff_ne]; omega
  go_enter Tryz.func40, Tryz.ntmps40
  go_wp2_with fail
  go_returns
  exact ⟨rfl, hk0⟩

set_option maxHeartbeats 4000000 in
set_option maxRecDepth 100000 in
/-- A part that may not be. -/
theorem grow_not (O d n : Nat) (p : PartR) (bk o cap : Nat) (w : World) (hG : GlobX w) (hp : p.ok) (hm : isM p = false) (hd : d < 64) (_hcap : n + 1 ≤ cap) (_hcm : cap ≤ 9223372036854775807)
    (h0 : w.cell? ⟨bk, o, none⟩ = some (.int .i64 p.kind)) (h1 : w.cell? ⟨bk, o + 1, none⟩ = some (.int .i64 p.n)) (h2 : w.cell? ⟨bk, o + 2, none⟩ = some (.string p.s)) (h3 : w.cell? ⟨bk, o + 3, none⟩ = some (.string p.stage)) (h4 : w.cell? ⟨bk, o + 4, none⟩ = some (.int .i64 p.field)) :
    Calls Tryz.prog 40 #[.slice (some ⟨bk, o, none⟩) (n + 1) cap, .slice (some ⟨O, 0, none⟩) 9 9, .int .i64 ((d : Int) + 1)] w fun e w' => e = .returned (.tuple #[.pointer none, .slice none 0 0]) ∧ Keeps [] w w' := by
  have hk0 := Keeps.refl [] w
  have HI := Lib.hid (is_any p hp w hG)
  rw [hm] at HI
  have d1 : (((n : Int) + 1) == 0) = false := by rw [beq_eq_false_iff_ne]; omega
  have d2 : (((d : Int) + 1) == 0) = false := by rw [beq_eq_false_iff_ne]; omega
  clear hm hG hp
  go_enter Tryz.func40, Tryz.ntmps40
  go_wp2_with (go_at_call 57; refine HI.out.mono ?_; rintro e w2 ⟨rfl, hk2⟩)
  go_returns
  exact ⟨rfl, hk2⟩

/-- What is left of a slice behind its first part. -/
def RestOf (bk o n cap : Nat) (v : Value) : Prop := ∃ o', v = .slice (some ⟨bk, o', none⟩) n (cap - 1) ∧ (n ≠ 0 → o' = o + 5)

theorem RestOf.arg {w : World} {bk o cap : Nat} {v : Value} {p : PartR} {l : List PartR} (h : RestOf bk o l.length cap v) (hs : PartSl w bk o (p :: l)) (hc : (p :: l).length ≤ cap) (hm : cap ≤ 9223372036854775807) : ArgPart w v l := by
  obtain ⟨o', rfl, h2⟩ := h
  refine ⟨_, _, rfl, (fun e => nomatch e), fun hne => ⟨bk, o', rfl, ?_, by simp at hc; omega, by omega⟩⟩
  have ho := h2 (fun e => hne (List.eq_nil_of_length_eq_zero e))
  subst ho
  intro j x hx
  have h3 := hs (j + 1) x hx
  have e : o + (j + 1) * 5 = o + 5 + j * 5 := by omega
  rw [e] at h3
  exact h3

set_option maxHeartbeats 4000000 in
set_option maxRecDepth 100000 in
/-- A leaf. -/
theorem grow_leaf (O d n : Nat) (p : PartR) (bk o cap : Nat) (w : World) (hG : GlobX w) (hp : p.ok) (hm : isM p = true) (hd : d < 64) (hcap : n + 1 ≤ cap) (_hcm : cap ≤ 9223372036854775807)
    (h0 : w.cell? ⟨bk, o, none⟩ = some (.int .i64 p.kind)) (h1 : w.cell? ⟨bk, o + 1, none⟩ = some (.int .i64 p.n)) (h2 : w.cell? ⟨bk, o + 2, none⟩ = some (.string p.s)) (h3 : w.cell? ⟨bk, o + 3, none⟩ = some (.string p.stage)) (h4 : w.cell? ⟨bk, o + 4, none⟩ = some (.int .i64 p.field)) (hleaf : p.kind = 1 ∨ p.kind = 2 ∨ p.kind = 3) :
    Calls Tryz.prog 40 #[.slice (some ⟨bk, o, none⟩) (n + 1) cap, .slice (some ⟨O, 0, none⟩) 9 9, .int .i64 ((d : Int) + 1)] w fun e w' => (∃ a v', e = .returned (.tuple #[.pointer (some ⟨a, 0, none⟩), v']) ∧ RestOf bk o n cap v' ∧ TreeAt w' O w.heap.size (.leaf p) a) ∧ Keeps [] w w' := by
  have hk0 := Keeps.refl [] w
  have HI := Lib.hid (is_any p hp w hG)
  rw [hm] at HI
  have d1 : (((n : Int) + 1) == 0) = false := by rw [beq_eq_false_iff_ne]; omega
  have d2 : (((d : Int) + 1) == 0) = false := by rw [beq_eq_false_iff_ne]; omega
  obtain ⟨kd, pn, ps, st, f⟩ := p
  simp only at h0 h1 h2 h3 h4 hleaf HI
  clear hm hG hp
  rcases hleaf with rfl | rfl | rfl
  · go_enter Tryz.func40, Tryz.ntmps40
    go_wp2_with (go_at_call 57; refine HI.out.mono ?_; rintro e w2 ⟨rfl, hk2⟩; have g0 := hk2.cell h0 (by simp); have g1 := hk2.cell h1 (by simp); have g2 := hk2.cell h2 (by simp); have g3 := hk2.cell h3 (by simp); have g4 := hk2.cell h4 (by simp); have hbl := World.block_lt_of_cell? w2 _ g0)
    all_goals go_returns
    all_goals refine ⟨⟨w2.heap.size, _, rfl, ⟨_, rfl, fun hn => ?_⟩, ⟨hk2.size, alloc_old (heap_alloc_new w2 _) _, by simp⟩⟩, (hk2.alloc _).alloc _⟩
    all_goals first
      | rfl
      | omega
  · go_enter Tryz.func40, Tryz.ntmps40
    go_wp2_with (go_at_call 57; refine HI.out.mono ?_; rintro e w2 ⟨rfl, hk2⟩; have g0 := hk2.cell h0 (by simp); have g1 := hk2.cell h1 (by simp); have g2 := hk2.cell h2 (by simp); have g3 := hk2.cell h3 (by simp); have g4 := hk2.cell h4 (by simp); have hbl := World.block_lt_of_cell? w2 _ g0)
    all_goals go_returns
    all_goals refine ⟨⟨w2.heap.size, _, rfl, ⟨_, rfl, fun hn => ?_⟩, ⟨hk2.size, alloc_old (heap_alloc_new w2 _) _, by simp⟩⟩, (hk2.alloc _).alloc _⟩
    all_goals first
      | rfl
      | omega
  · by_cases hf : 4 ≤ f
    · have d3 : decide (f ≥ 4) = true := by simp; omega
      have hlk : leafKind ⟨3, pn, ps, st, f⟩ = 2 := by simp [leafKind, hf]
      go_enter Tryz.func40, Tryz.ntmps40
      go_wp2_with (go_at_call 57; refine HI.out.mono ?_; rintro e w2 ⟨rfl, hk2⟩; have g0 := hk2.cell h0 (by simp); have g1 := hk2.cell h1 (by simp); have g2 := hk2.cell h2 (by simp); have g3 := hk2.cell h3 (by simp); have g4 := hk2.cell h4 (by simp); have hbl := World.block_lt_of_cell? w2 _ g0)
      all_goals go_returns
      all_goals refine ⟨⟨w2.heap.size, _, rfl, ⟨_, rfl, fun hn => ?_⟩, ⟨hk2.size, ?_, by simp⟩⟩, (hk2.alloc _).alloc _⟩
      all_goals first
        | rfl
        | omega
        | (rw [treeRow, hlk]; exact alloc_old (heap_alloc_new w2 _) _)
    · have d3 : decide (f ≥ 4) = false := by simp; omega
      have hlk : leafKind ⟨3, pn, ps, st, f⟩ = 1 := by simp [leafKind, hf]
      go_enter Tryz.func40, Tryz.ntmps40
      go_wp2_with (go_at_call 57; refine HI.out.mono ?_; rintro e w2 ⟨rfl, hk2⟩; have g0 := hk2.cell h0 (by simp); have g1 := hk2.cell h1 (by simp); have g2 := hk2.cell h2 (by simp); have g3 := hk2.cell h3 (by simp); have g4 := hk2.cell h4 (by simp); have hbl := World.block_lt_of_cell? w2 _ g0)
      all_goals go_returns
      all_goals refine ⟨⟨w2.heap.size, _, rfl, ⟨_, rfl, fun hn => ?_⟩, ⟨hk2.size, ?_, by simp⟩⟩, (hk2.alloc _).alloc _⟩
      all_goals first
        | rfl
        | omega
        | (rw [treeRow, hlk]; exact alloc_old (heap_alloc_new w2 _) _)

end Go.Proofs.YtefcmijobbgpbaaGreatDoor
