/- grow of operations. Conditions: those of each theorem. -/
import Derived.Test.YtefcmijobbgpbaaGreatDoorExF
namespace Go.Proofs.YtefcmijobbgpbaaGreatDoor
open Go.RowKit

set_option maxHeartbeats 4000000 in
set_option maxRecDepth 100000 in
/-- An operation behind which nothing stands. -/
theorem grow_short (O d : Nat) (p : PartR) (bk o cap : Nat) (w : World) (hG : GlobX w) (hp : p.ok) (hm : isM p = true) (hd : d < 64) (_hcap : 1 ≤ cap) (_hcm : cap ≤ 9223372036854775807)
    (h0 : w.cell? ⟨bk, o, none⟩ = some (.int .i64 p.kind)) (h1 : w.cell? ⟨bk, o + 1, none⟩ = some (.int .i64 p.n)) (h2 : w.cell? ⟨bk, o + 2, none⟩ = some (.string p.s)) (h3 : w.cell? ⟨bk, o + 3, none⟩ = some (.string p.stage)) (h4 : w.cell? ⟨bk, o + 4, none⟩ = some (.int .i64 p.field)) (hop : 4 ≤ p.kind) :
    Calls Tryz.prog 40 #[.slice (some ⟨bk, o, none⟩) 1 cap, .slice (some ⟨O, 0, none⟩) 9 9, .int .i64 ((d : Int) + 1)] w fun e w' => e = .returned (.tuple #[.pointer none, .slice none 0 0]) ∧ Keeps [] w w' := by
  have hk0 := Keeps.refl [] w
  have HI := Lib.hid (is_any p hp w hG)
  rw [hm] at HI
  have HN := fun ao cap w => Lib.hid (grow_nil O d ao cap w)
  have d2 : (((d : Int) + 1) == 0) = false := by rw [beq_eq_false_iff_ne]; omega
  have e1 : (p.kind == 1) = false := by rw [beq_eq_false_iff_ne]; omega
  have e2 : (p.kind == 2) = false := by rw [beq_eq_false_iff_ne]; omega
  have e3 : (p.kind == 3) = false := by rw [beq_eq_false_iff_ne]; omega
  clear hm hG hp
  by_cases h13 : p.kind = 13
  · have e4 : (p.kind == 13) = true := by rw [h13]; rfl
    clear h13
    go_enter Tryz.func40, Tryz.ntmps40
    go_wp2_with (go_at_call 57; refine HI.out.mono ?_; rintro e w2 ⟨rfl, hk2⟩; have g0 := hk2.cell h0 (by simp); have g1 := hk2.cell h1 (by simp); have g2 := hk2.cell h2 (by simp); have g3 := hk2.cell h3 (by simp); have g4 := hk2.cell h4 (by simp); have hbl := World.block_lt_of_cell? w2 _ g0)
    · have hka := (hk2.alloc (.cells (treeRow p (.pointer none) (.slice none 0 0) 0) 69 (0, 0))).alloc (.cells #[.pointer (some ⟨w2.heap.size, 0, none⟩)] 64 (0, 0))
      go_loopw [0, 72] (fun x i wr => (∃ ao c, x = .slice ao 0 c) ∧ i = .int .i64 0 ∧ Keeps [] w wr) (fun _ _ _ => 0)
      case atStart => exact ⟨⟨_, _, rfl⟩, rfl, hka⟩
      case round =>
        clear hka
        obtain ⟨⟨ao, c, rfl⟩, rfl, hk⟩ := hrel
        go_wp2_with (go_at_call 40; refine (HN _ _ _).out.mono ?_; rintro e w4 ⟨rfl, hk4⟩)
        go_returns
        exact ⟨rfl, hk.then hk4⟩
    · have hka := (hk2.alloc (.cells (treeRow p (.pointer none) (.slice none 0 0) 0) 69 (0, 0))).alloc (.cells #[.pointer (some ⟨w2.heap.size, 0, none⟩)] 64 (0, 0))
      go_loopw [0, 72] (fun x i wr => (∃ ao c, x = .slice ao 0 c) ∧ i = .int .i64 0 ∧ Keeps [] w wr) (fun _ _ _ => 0)
      case atStart => exact ⟨⟨_, _, rfl⟩, rfl, hka⟩
      case round =>
        clear hka
        obtain ⟨⟨ao, c, rfl⟩, rfl, hk⟩ := hrel
        go_wp2_with (go_at_call 40; refine (HN _ _ _).out.mono ?_; rintro e w4 ⟨rfl, hk4⟩)
        go_returns
        exact ⟨rfl, hk.then hk4⟩
  · have e4 : (p.kind == 13) = false := by rw [beq_eq_false_iff_ne]; exact h13
    clear h13
    go_enter Tryz.func40, Tryz.ntmps40
    go_wp2_with (go_at_call 57; refine HI.out.mono ?_; rintro e w2 ⟨rfl, hk2⟩; have g0 := hk2.cell h0 (by simp); have g1 := hk2.cell h1 (by simp); have g2 := hk2.cell h2 (by simp); have g3 := hk2.cell h3 (by simp); have g4 := hk2.cell h4 (by simp); have hbl := World.block_lt_of_cell? w2 _ g0)
    · have hka := (hk2.alloc (.cells (treeRow p (.pointer none) (.slice none 0 0) 0) 69 (0, 0))).alloc (.cells #[.pointer (some ⟨w2.heap.size, 0, none⟩)] 64 (0, 0))
      go_loopw [0, 72] (fun x i wr => (∃ ao c, x = .slice ao 0 c) ∧ i = .int .i64 0 ∧ Keeps [] w wr) (fun _ _ _ => 0)
      case atStart => exact ⟨⟨_, _, rfl⟩, rfl, hka⟩
      case round =>
        clear hka
        obtain ⟨⟨ao, c, rfl⟩, rfl, hk⟩ := hrel
        go_wp2_with (go_at_call 40; refine (HN _ _ _).out.mono ?_; rintro e w4 ⟨rfl, hk4⟩)
        go_returns
        exact ⟨rfl, hk.then hk4⟩
    · have hka := (hk2.alloc (.cells (treeRow p (.pointer none) (.slice none 0 0) 0) 69 (0, 0))).alloc (.cells #[.pointer (some ⟨w2.heap.size, 0, none⟩)] 64 (0, 0))
      go_loopw [0, 72] (fun x i wr => (∃ ao c, x = .slice ao 0 c) ∧ i = .int .i64 0 ∧ Keeps [] w wr) (fun _ _ _ => 0)
      case atStart => exact ⟨⟨_, _, rfl⟩, rfl, hka⟩
      case round =>
        clear hka
        obtain ⟨⟨ao, c, rfl⟩, rfl, hk⟩ := hrel
        go_wp2_with (go_at_call 40; refine (HN _ _ _).out.mono ?_; rintro e w4 ⟨rfl, hk4⟩)
        go_returns
        exact ⟨rfl, hk.then hk4⟩

/-- What the recursion is told. -/
def GrowIH (O d : Nat) (l : List PartR) : Prop := ∀ (u : World) (v : Value) (w : World), GrowIn O u w v l → Calls Tryz.prog 40 #[v, .slice (some ⟨O, 0, none⟩) 9 9, .int .i64 d] w fun e w' => GrowOut O u w.heap.size (growM d l) e w' ∧ Keeps [] w w'

end Go.Proofs.YtefcmijobbgpbaaGreatDoor
