/- The reader's read: what stops it is caught. Conditions: those of each theorem. -/
import Derived.Test.YtefcmijobbgpbaaGreatDoorExX
import Derived.Recover
namespace Go.Proofs.YtefcmijobbgpbaaGreatDoor
open Go.RowKit

theorem as_stuck (v : Value) (w : World) : (Instr.typeAssert (.iface 146 v) 20 146 false).run Tryz.prog w = .ok v w := by kernel_rfl
theorem run_stuck0 (a : Int) (w : World) : (Instr.field 146 (.agg #[.int .i64 a]) 0).run Tryz.prog w = .ok (.int .i64 a) w := by kernel_rfl

set_option maxHeartbeats 4000000 in
set_option maxRecDepth 100000 in
theorem catch_stuck (B2 B3 : Nat) (v2 : Value) (a f0 f1 : Int) (older : List PanicEntry) (w : World) (h2 : w.heap[B2]? = some (.cells #[v2] 22 (0, 0))) (hne : B2 ≠ B3) (h3 : w.heap[B3]? = some (.cells #[.int .i64 f0, .int .i64 f1] 49 (0, 0))) :
    CallsD Tryz.prog 85 #[.pointer (some ⟨B2, 0, none⟩), .pointer (some ⟨B3, 0, none⟩)] (.panicking ({ v := .iface 146 (.agg #[.int .i64 a]), recovered := false } :: older)) w fun e u' w' =>
      e = .returned (.tuple #[]) ∧ u' = .panicking ({ v := .iface 146 (.agg #[.int .i64 a]), recovered := true } :: older) ∧ w'.heap[B2]? = some (.cells #[.slice none 0 0] 22 (0, 0)) ∧ w'.heap[B3]? = some (.cells #[.int .i64 a, .int .i64 110] 49 (0, 0)) ∧ Keeps [B2, B3] w w' := by
  have hc2 : w.cell? ⟨B2, 0, none⟩ = some v2 := by simp [World.cell?, h2]
  have hz2 : w.frozen? ⟨B2, 0, none⟩ = false := by simp [World.frozen?, h2]
  have hc30 : w.cell? ⟨B3, 0, none⟩ = some (.int .i64 f0) := by simp [World.cell?, h3]
  have hc31 : w.cell? ⟨B3, 1, none⟩ = some (.int .i64 f1) := by simp [World.cell?, h3]
  have hz30 : w.frozen? ⟨B3, 0, none⟩ = false := by simp [World.frozen?, h3]
  have hz31 : w.frozen? ⟨B3, 1, none⟩ = false := by simp [World.frozen?, h3]
  have HA := as_stuck
  have HF := run_stuck0
  refine callsD_of_wpS Tryz.func85 rfl fun c₀ cs hu => ?_
  apply wpS_seq
  apply wpS_region
  simp [wpOpsS, go_sem, recoverD, hu, Tryz.ntmps85, Exit.thenS]
  refine wpS_of_wp ?_
  go_wp2_with fail
  refine wp_region_chain (fun _ => True) [4] [(0, 0), (1, 0), (2, 0), (3, 0), (4, 3), (5, 3)] (by kernel_rfl) (by kernel_rfl) (fun _ d _ _ _ h => by cases d <;> exact h) trivial ?_
  repeat (first
    | (refine wpC_pure (v := ?_) rfl (by rfl) ?_ ?_
       rotate_left 1
       · (intro w; go_simp; try with_reducible rfl)
       try simp only [Act.put, List.getElem_toArray, List.getElem_cons_succ, List.getElem_cons_zero]))
  refine wpC_last rfl (by rfl) (fun K hK => ?_)
  go_simp
  refine hK _ _ ?_
  clear hK K
  try simp only [Act.put, List.setIfInBounds_toArray, List.set_cons_zero, List.set_cons_succ, List.getElem_toArray, List.getElem_cons_succ, List.getElem_cons_zero]
  refine wpC_last rfl (by rfl) (fun K hK => ?_)
  go_simp
  refine hK _ _ ?_
  clear hK K
  try simp only [Act.put, List.setIfInBounds_toArray, List.set_cons_zero, List.set_cons_succ, List.getElem_toArray, List.getElem_cons_succ, List.getElem_cons_zero]
  refine wpC_nil ?_
  go_wp2_with fail
  refine ⟨rfl, _, rfl, .tuple #[], (by simp [results, Tryz.results85]), rfl, rfl, ?_, ?_, ?_⟩
  · exact heap_set_other (a := ⟨B3, 1, none⟩) (heap_set_other (a := ⟨B3, 0, none⟩) (heap_set_self (o := 0) h2) hne) hne
  · exact heap_set_self (o := 1) (heap_set_self (o := 0) (heap_set_other (a := ⟨B2, 0, none⟩) h3 (fun e => hne e.symm)))
  · exact ((((Keeps.refl [B2, B3] w).setCell (.inl (by simp)) _).setCell (.inl (by simp)) _).setCell (.inl (by simp)) _).drew

set_option maxHeartbeats 4000000 in
set_option maxRecDepth 100000 in
theorem catch_none (B2 B3 : Nat) (w : World) :
    CallsD Tryz.prog 85 #[.pointer (some ⟨B2, 0, none⟩), .pointer (some ⟨B3, 0, none⟩)] .returning w fun e u' w' => e = .returned (.tuple #[]) ∧ u' = .returning ∧ w' = w := by
  refine callsD_of_wpS Tryz.func85 rfl fun c₀ cs hu => ?_
  apply wpS_seq
  apply wpS_region
  simp [wpOpsS, go_sem, recoverD, hu, Tryz.ntmps85, Exit.thenS]
  refine wpS_of_wp ?_
  go_wp2_with fail
  cases c₀
  simp_all [bodyPostS, results, Tryz.results85]

set_option maxHeartbeats 4000000 in
set_option maxRecDepth 100000 in
/-- A reader that comes through. -/
theorem read_ok {W w : World} {R bk o n cap O k' f : Nat} {l : List TokR} {x : List PartR} (c : RdCtx W R bk o n cap O l) (hk : Keeps [] W w) (hr : RdAt w R bk o n cap O 0 0) (hf : 8 * n + 7 ≤ f) (hx : runM l f none 0 0 0 = .ok x k') :
    Calls Tryz.prog 56 #[.pointer (some ⟨R, 0, none⟩)] w fun e w' => (∃ ao q cp, e = .returned (.tuple #[.slice ao q cp, .agg #[.int .i64 0, .int .i64 0]]) ∧ x.length = q ∧ w'.ownsRow w.heap.size 58 5 (.slice ao q cp) q (partsRow x) ∧ RdAt w' R bk o n cap O k' 0) ∧ Keeps [R] w w' := by
  have hmf : ∀ (fn : Fn) (first cap : Array Value) (w : World), (Instr.makeFunc fn first cap).run Tryz.prog w = .ok (.func fn first cap) w := fun _ _ _ _ => rfl
  have hka := ((Keeps.refl [] w).alloc (.cells #[.slice none 0 0] 22 (0, 0))).alloc (.cells #[.int .i64 0, .int .i64 0] 49 (0, 0))
  have hl := level_any c f 0 0 0 _ (by omega) (by have := c.pos; omega) (by omega) (by omega) (hk.then hka) (hr.keep hka)
  rw [hx] at hl
  have HLV := Lib.hid hl
  have hrr := hr
  clear hl hx c hk hr hf
  go_enter_defers Tryz.func56, Tryz.ntmps56
  go_wp2_with fail
  have hRw := Lib.hid (heap_lt hrr)
  refine HLV.out.mono ?_
  rintro e w5 ⟨hl, hk5⟩
  obtain ⟨ao, q, cp, rfl, hq, hown, hr5⟩ := hl.ok_form
  have hb2 := hk5.heap (alloc_old (heap_alloc_new w (.cells #[.slice none 0 0] 22 (0, 0))) (.cells #[.int .i64 0, .int .i64 0] 49 (0, 0))) (by have := hRw.out; simp; omega)
  have hb3 := hk5.heap (heap_alloc2_new w (.cells #[.slice none 0 0] 22 (0, 0)) (.cells #[.int .i64 0, .int .i64 0] 49 (0, 0))) (by have := hRw.out; simp; omega)
  have hkb : Keeps [R] w w5 := (hka.mono (by simp)).trans hk5 (fun x hx _ => hx)
  have hs5 : w.heap.size + 2 ≤ w5.heap.size := by have := hk5.size; simpa using this
  obtain ⟨B3, hB3⟩ : ∃ B3, B3 = w.heap.size + 1 := ⟨_, rfl⟩
  obtain ⟨B2, hB2⟩ : ∃ B2, B2 = w.heap.size := ⟨_, rfl⟩
  have hne : B2 ≠ B3 := by omega
  have hne' : B3 ≠ B2 := by omega
  have hlt : w.heap.size ≤ B2 ∧ w.heap.size ≤ B3 := by omega
  have hRB2 : R ≠ B2 := by have := hRw.out; omega
  have hRB3 : R ≠ B3 := by have := hRw.out; omega
  have hbase : w5.ownsRow (w.heap.size + 2) 58 5 (.slice ao q cp) q (partsRow x) := by simpa using hown
  have hob : ∀ b, Value.ownBlock (.slice ao q cp) = some b → b ≠ B2 ∧ b ≠ B3 := fun b hb => by have := own_ge hbase hb; omega
  rw [← hB3] at hb3 ⊢
  rw [← hB2] at hb2 ⊢
  have hlast : ∀ W' : World, W' = ((w5.setCell ⟨B2, 0, none⟩ (.slice ao q cp)).setCell ⟨B3, 0, none⟩ (.int .i64 0)).setCell ⟨B3, 1, none⟩ (.int .i64 0) → W'.heap[B2]? = some (.cells #[.slice ao q cp] 22 (0, 0)) ∧ W'.heap[B3]? = some (.cells #[.int .i64 0, .int .i64 0] 49 (0, 0)) ∧ Keeps [R] w W' ∧ W'.ownsRow w.heap.size 58 5 (.slice ao q cp) q (partsRow x) ∧ RdAt W' R bk o n cap O k' 0 := by
    rintro W' rfl
    refine ⟨?_, ?_, ?_, ?_, ?_⟩
    · exact heap_set_other (a := ⟨B3, 1, none⟩) (heap_set_other (a := ⟨B3, 0, none⟩) (heap_set_self (o := 0) hb2) hne) hne
    · exact heap_set_self (o := 1) (heap_set_self (o := 0) (heap_set_other (a := ⟨B2, 0, none⟩) hb3 hne'))
    · exact ((hkb.setCell (.inr hlt.1) _).setCell (.inr hlt.2) _).setCell (.inr hlt.2) _
    · exact own_mono (own_set_other (a := ⟨B3, 1, none⟩) (own_set_other (a := ⟨B3, 0, none⟩) (own_set_other (a := ⟨B2, 0, none⟩) hbase _ (fun h => (hob _ h).1 rfl)) _ (fun h => (hob _ h).2 rfl)) _ (fun h => (hob _ h).2 rfl)) (by omega)
    · exact heap_set_other (a := ⟨B3, 1, none⟩) (heap_set_other (a := ⟨B3, 0, none⟩) (heap_set_other (a := ⟨B2, 0, none⟩) hr5 hRB2) hRB3) hRB3
  have z2 : w5.cell? ⟨B2, 0, none⟩ = some (.slice none 0 0) := by simp [World.cell?, hb2]
  have y2 : w5.frozen? ⟨B2, 0, none⟩ = false := by simp [World.frozen?, hb2]
  have z30 : w5.cell? ⟨B3, 0, none⟩ = some (.int .i64 0) := by simp [World.cell?, hb3]
  have z31 : w5.cell? ⟨B3, 1, none⟩ = some (.int .i64 0) := by simp [World.cell?, hb3]
  have y30 : w5.frozen? ⟨B3, 0, none⟩ = false := by simp [World.frozen?, hb3]
  have y31 : w5.frozen? ⟨B3, 1, none⟩ = false := by simp [World.frozen?, hb3]
  have HLA := Lib.hid hlast
  have HQ := Lib.hid hq
  clear hl hown hr5 hk5 hb2 hb3 hlast hbase hob hB2 hB3 hq HLV hka hRw
  go_wp2_with fail
  obtain ⟨W', hW'⟩ : ∃ W', W' = ((w5.setCell ⟨B2, 0, none⟩ (.slice ao q cp)).setCell ⟨B3, 0, none⟩ (.int .i64 0)).setCell ⟨B3, 1, none⟩ (.int .i64 0) := ⟨_, rfl⟩
  obtain ⟨g2, g3, hkW, hoW, hrW⟩ := HLA.out W' hW'
  rw [← hW']
  clear hW' z2 y2 z30 z31 y30 y31
  refine leaves_cons (f := 85) (args := #[.pointer (some ⟨B2, 0, none⟩), .pointer (some ⟨B3, 0, none⟩)]) (by simp) (by simp [go_sem]) ?_
  refine (catch_none B2 B3 _).mono ?_
  rintro e u' w'' ⟨rfl, rfl, rfl⟩
  have q2 : w''.cell? ⟨B2, 0, none⟩ = some (.slice ao q cp) := by simp [World.cell?, g2]
  refine ⟨.tuple #[.slice ao q cp, .agg #[.int .i64 0, .int .i64 0]], ?_, ⟨ao, q, cp, rfl, HQ.out, hoW, hrW⟩, hkW⟩
  have q30 : w''.cell? ⟨B3, 0, none⟩ = some (.int .i64 0) := by simp [World.cell?, g3]
  have q31 : w''.cell? ⟨B3, 1, none⟩ = some (.int .i64 0) := by simp [World.cell?, g3]
  simp [results, Tryz.results56, asAddr, go_sem, q2, q30, q31]

set_option maxHeartbeats 4000000 in
set_option maxRecDepth 100000 in
/-- A reader that is stuck. -/
theorem read_stuck {W w : World} {R bk o n cap O f : Nat} {l : List TokR} {a : Int} (c : RdCtx W R bk o n cap O l) (hk : Keeps [] W w) (hr : RdAt w R bk o n cap O 0 0) (hf : 8 * n + 7 ≤ f) (hx : runM l f none 0 0 0 = .stuck a) :
    Calls Tryz.prog 56 #[.pointer (some ⟨R, 0, none⟩)] w fun e w' => e = .returned (.tuple #[.slice none 0 0, .agg #[.int .i64 a, .int .i64 110]]) ∧ Keeps [R] w w' := by
  have hmf : ∀ (fn : Fn) (first cap : Array Value) (w : World), (Instr.makeFunc fn first cap).run Tryz.prog w = .ok (.func fn first cap) w := fun _ _ _ _ => rfl
  have hka := ((Keeps.refl [] w).alloc (.cells #[.slice none 0 0] 22 (0, 0))).alloc (.cells #[.int .i64 0, .int .i64 0] 49 (0, 0))
  have hl := level_any c f 0 0 0 _ (by omega) (by have := c.pos; omega) (by omega) (by omega) (hk.then hka) (hr.keep hka)
  rw [hx] at hl
  have HLV := Lib.hid hl
  have hrr := hr
  clear hl hx c hk hr hf
  go_enter_defers Tryz.func56, Tryz.ntmps56
  go_wp2_with fail
  have hRw := Lib.hid (heap_lt hrr)
  refine HLV.out.mono ?_
  rintro e w5 ⟨hl, hk5⟩
  have hl := hl.stuck_form
  subst hl
  have hb2 := hk5.heap (alloc_old (heap_alloc_new w (.cells #[.slice none 0 0] 22 (0, 0))) (.cells #[.int .i64 0, .int .i64 0] 49 (0, 0))) (by have := hRw.out; simp; omega)
  have hb3 := hk5.heap (heap_alloc2_new w (.cells #[.slice none 0 0] 22 (0, 0)) (.cells #[.int .i64 0, .int .i64 0] 49 (0, 0))) (by have := hRw.out; simp; omega)
  have hkb : Keeps [R] w w5 := (hka.mono (by simp)).trans hk5 (fun x hx _ => hx)
  refine leaves_cons (f := 85) (args := #[.pointer (some ⟨w.heap.size, 0, none⟩), .pointer (some ⟨w.heap.size + 1, 0, none⟩)]) (by simp) (by simp [go_sem]) ?_
  refine (catch_stuck w.heap.size (w.heap.size + 1) _ a 0 0 [] _ hb2 (by omega) hb3).mono ?_
  rintro e u' w'' ⟨rfl, rfl, g2, g3, hk6⟩
  have q2 : w''.cell? ⟨w.heap.size, 0, none⟩ = some (.slice none 0 0) := by simp [World.cell?, g2]
  have q30 : w''.cell? ⟨w.heap.size + 1, 0, none⟩ = some (.int .i64 a) := by simp [World.cell?, g3]
  have q31 : w''.cell? ⟨w.heap.size + 1, 1, none⟩ = some (.int .i64 110) := by simp [World.cell?, g3]
  refine ⟨.tuple #[.slice none 0 0, .agg #[.int .i64 a, .int .i64 110]], ?_, rfl, hkb.trans hk6 (by intro x hx hlt; simp at hx; omega)⟩
  simp [results, Tryz.results56, asAddr, go_sem, q2, q30, q31]

end Go.Proofs.YtefcmijobbgpbaaGreatDoor
