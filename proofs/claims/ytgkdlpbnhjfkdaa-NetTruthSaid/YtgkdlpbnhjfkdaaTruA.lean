/- Maps that count by a packet. Conditions: those of each theorem. -/
import Derived.Test.YtgkdlpbnhjfkdaaLaw
import Derived.WideKeyEntry
import Derived.DeepKeys4
namespace Go.Proofs.Ytgkdlpbnhjfkdaa
open Go.RowKit Go.WideElems Go.MapKept Go.ChangeMaps
open Go.WideMaps (KeyLaw)

abbrev Pk3 := Int × Int × ByteArray
def keyV (q : Pk3) : Value := .agg #[.int .i64 q.1, .int .i64 q.2.1, .string q.2.2]
def okKey (q : Pk3) : Prop := (-9223372036854775808 ≤ q.1 ∧ q.1 ≤ 9223372036854775807) ∧ (-9223372036854775808 ≤ q.2.1 ∧ q.2.1 ≤ 9223372036854775807) ∧ q.2.2.size ≤ maxLen

theorem keyV_inj {q r : Pk3} (h : keyV q = keyV r) : q = r := by
  obtain ⟨a, b, c⟩ := q
  obtain ⟨d, e, f⟩ := r
  simp only [keyV, Value.agg.injEq, Array.mk.injEq, List.cons.injEq, Value.int.injEq, Value.string.injEq, true_and, and_true] at h
  obtain ⟨rfl, rfl, rfl⟩ := h
  rfl

theorem key_law : KeyLaw Try.prog 54 := deep_law_laid Try.laidOut (m := 2) (by omega) (of_decide_eq_true (by kernel_rfl)) (by kernel_rfl) (by kernel_rfl)

theorem wf_mk {n : Int} (h : -9223372036854775808 ≤ n ∧ n ≤ 9223372036854775807) : (Lit.int .i64 n).wf = true := by
  have e1 : IntKind.i64.min = -9223372036854775808 := by decide
  have e2 : IntKind.i64.max = 9223372036854775807 := by decide
  simp only [Lit.wf, e1, e2]
  simp [h.1, h.2]

theorem keyOf_ok {q : Pk3} (h : okKey q) : ∃ l, keyOf Try.prog 54 (keyV q) = some l := by
  obtain ⟨a, b, c⟩ := q
  obtain ⟨h1, h2, h3⟩ := h
  have hc : Try.prog.cellsOf 54 = 3 := by kernel_rfl
  have hc3 : Try.prog.cellsOf 3 = 1 := by kernel_rfl
  have hc9 : Try.prog.cellsOf 9 = 1 := by kernel_rfl
  have hk : Try.prog.keyType 54 = true := by kernel_rfl
  obtain ⟨N, hN⟩ : ∃ N, Try.prog.types.size + 1 = N + 2 := ⟨Try.prog.types.size - 1, by have : 1 ≤ Try.prog.types.size := of_decide_eq_true (by kernel_rfl); omega⟩
  have w1 := wf_mk h1
  have w2 := wf_mk h2
  unfold keyOf
  rw [Try.underlying54]
  simp only [hk, hN, Bool.true_and]
  have hf : (keyV (a, b, c)).formed Try.prog 54 = true := by
    simp [keyV, Value.formed, Try.underlying54, hc]
  rw [hf]
  simp only [if_true]
  simp [keyV, Value.cells, Program.keyLits, Try.underlying54, Try.underlying3, Try.underlying9, hc, hc3, hc9, w1, w2, h3]

def Fits (g : Pk3 → Int) (es : Array MapEntry) (clock : Nat) : Prop :=
  Stamped es clock ∧ (∀ x ∈ es.toList, ∃ q, okKey q ∧ x.key = keyV q ∧ x.val = .int .i64 (g q)) ∧ ∀ q, (∀ x ∈ es.toList, x.key ≠ keyV q) → g q = 0

def CMap (w : World) (B : Nat) (g : Pk3 → Int) : Prop := ∃ es clock, w.heap[B]? = some (.map es clock) ∧ Fits g es clock

theorem CMap.empty {w : World} : CMap (w.alloc (.map #[] 0)) w.heap.size (fun _ => 0) := ⟨#[], 0, heap_alloc_new _ _, stamped_empty 0, by simp, fun _ _ => rfl⟩

theorem CMap.keep {S : List Nat} {w w' : World} {B : Nat} {g : Pk3 → Int} (h : CMap w B g) (k : Keeps S w w') (hB : B ∉ S) : CMap w' B g := by
  obtain ⟨es, c, h1, h2⟩ := h
  exact ⟨es, c, k.heap h1 hB, h2⟩

theorem Fits.keys {g : Pk3 → Int} {es : Array MapEntry} {clock : Nat} (F : Fits g es clock) : ∀ x ∈ es.toList, ∃ l, keyOf Try.prog 54 x.key = some l := fun x hx => by
  obtain ⟨q, h1, h2, _⟩ := F.2.1 x hx
  rw [h2]
  exact keyOf_ok h1

theorem zero3 (w : World) : (zeroValue 3).run Try.prog w = .ok (.int .i64 0) w := by go_simp

theorem cmap_lookup {w : World} {B : Nat} {g : Pk3 → Int} {q : Pk3} (h : CMap w B g) (hq : okKey q) : (Instr.lookup 52 (.map (some B)) (keyV q) false).run Try.prog w = .ok (.int .i64 (g q)) w := by
  obtain ⟨es, clock, hb, F⟩ := h
  obtain ⟨l, hl⟩ := keyOf_ok hq
  rcases key_law.find w hl es.toList F.keys with ⟨h1, h2⟩ | ⟨j, e0, h1, h2, h3⟩
  · rw [F.2.2 q h2]
    simp [Instr.lookup, run_underlying Try.underlying52, MapKept.run_getObj_map hb, key_law.check w _ hl, h1, zero3, Result.andThen]
  · obtain ⟨r, _, h5, h6⟩ := F.2.1 e0 (List.mem_of_getElem? h2)
    rw [h3] at h5
    have := keyV_inj h5
    subst this
    simp [Instr.lookup, run_underlying Try.underlying52, MapKept.run_getObj_map hb, key_law.check w _ hl, h1, h6, Result.andThen]

/-- The entry of q stands there, stamped. -/
def Ent (g : Pk3 → Int) (q : Pk3) (st : Nat) (es : Array MapEntry) (clock : Nat) : Prop := Fits g es clock ∧ ∃ (j : Nat) (e : MapEntry), es[j]? = some e ∧ e.key = keyV q ∧ e.born = st

theorem cmap_entry {w : World} {B : Nat} {g : Pk3 → Int} {q : Pk3} (h : CMap w B g) (hq : okKey q) :
    ∃ (st : Nat) (es : Array MapEntry) (clock : Nat), (Instr.mapEntry 52 (.map (some B)) (keyV q)).run Try.prog w = .ok (.tuple #[.int .i64 (g q), goInt st]) (setBlock w B (.map es clock)) ∧ Ent g q st es clock := by
  obtain ⟨es, clock, hb, F⟩ := h
  obtain ⟨l, hl⟩ := keyOf_ok hq
  rcases key_law.find w hl es.toList F.keys with ⟨h1, h2⟩ | ⟨j, e0, h1, h2, h3⟩
  · have hg := F.2.2 q h2
    refine ⟨clock, es.push ⟨keyV q, .int .i64 0, clock⟩, clock + 1, ?_, ⟨stamped_push F.1 h2, ?_, ?_⟩, es.size, ⟨keyV q, .int .i64 0, clock⟩, by simp, rfl, rfl⟩
    · rw [hg]
      simp [Instr.mapEntry, run_underlying Try.underlying52, MapKept.run_getObj_map hb, key_law.check w false hl, h1, zero3, MapKept.run_setObj_map _ hb, Result.andThen, setBlock]
    · intro x hx
      simp only [Array.toList_push, List.mem_append, List.mem_singleton] at hx
      rcases hx with hx | rfl
      · exact F.2.1 x hx
      · exact ⟨q, hq, rfl, by rw [hg]⟩
    · intro r hr
      exact F.2.2 r fun x hx => hr x (by simp [hx])
  · have hj : es[j]? = some e0 := by simpa using h2
    have hsame : es.modify j (fun e => { e with key := keyV q }) = es := by
      apply Array.ext'
      rw [Array.toList_modify, modify_eq_set _ _ _ _ h2]
      have : ({ e0 with key := keyV q } : MapEntry) = e0 := by rw [← h3]
      rw [this]
      exact WideElems.set_self _ _ _ h2
    obtain ⟨r, _, h5, h6⟩ := F.2.1 e0 (List.mem_of_getElem? h2)
    rw [h3] at h5
    have := keyV_inj h5
    subst this
    refine ⟨e0.born, es, clock, ?_, F, j, e0, hj, h3, rfl⟩
    simp [Instr.mapEntry, run_underlying Try.underlying52, MapKept.run_getObj_map hb, key_law.check w false hl, h1, hj, h3, h6, key_law.stays w hl, hsame, MapKept.run_setObj_map _ hb, Result.andThen, setBlock]

def upd (g : Pk3 → Int) (q : Pk3) (n : Int) : Pk3 → Int := fun r => if r = q then n else g r

theorem cmap_store {w : World} {B : Nat} {g : Pk3 → Int} {q : Pk3} {st : Nat} {es : Array MapEntry} {clock : Nat} (n : Int) (hb : w.heap[B]? = some (.map es clock)) (h : Ent g q st es clock) :
    ∃ es', (Instr.entryStore 52 (.map (some B)) (goInt st) (.int .i64 n)).run Try.prog w = .ok () (setBlock w B (.map es' clock)) ∧ Fits (upd g q n) es' clock := by
  obtain ⟨F, j, e0, hj, hk, rfl⟩ := h
  have h2 : es.toList[j]? = some e0 := by simpa using hj
  have hidx : es.findIdx? (fun e => ((e.born : Nat) : Int) == ((e0.born : Nat) : Int)) = some j := by
    rw [findIdx_arr]
    exact findIdx_born F.1.2.1 h2
  have hset : (es.modify j (fun e => { e with val := .int .i64 n })).toList = es.toList.set j { e0 with val := .int .i64 n } := by
    rw [Array.toList_modify, modify_eq_set _ _ _ _ h2]
  refine ⟨es.modify j (fun e => { e with val := .int .i64 n }), ?_, stamped_modify F.1 j _ (fun _ _ => rfl) (fun _ _ _ => rfl), ?_, ?_⟩
  · simp [Instr.entryStore, MapKept.run_getObj_map hb, asInt, asIntOf, goInt, hidx, MapKept.run_setObj_map _ hb, Result.andThen, setBlock]
  · intro x hx
    rw [hset] at hx
    obtain ⟨i, hi⟩ := List.getElem?_of_mem hx
    rw [List.getElem?_set] at hi
    by_cases hij : j = i
    · subst hij
      have hlt : j < es.toList.length := (List.getElem?_eq_some_iff.1 h2).1
      rw [if_pos rfl, if_pos hlt] at hi
      cases hi
      obtain ⟨r, h4, h5, _⟩ := F.2.1 e0 (List.mem_of_getElem? h2)
      rw [hk] at h5
      have := keyV_inj h5
      subst this
      exact ⟨q, h4, hk, by simp [upd]⟩
    · rw [if_neg hij] at hi
      obtain ⟨r, h4, h5, h6⟩ := F.2.1 x (List.mem_of_getElem? hi)
      refine ⟨r, h4, h5, ?_⟩
      have hne : r ≠ q := by
        rintro rfl
        have hn := List.pairwise_iff_getElem.1 F.1.2.2
        obtain ⟨hjl, hje⟩ := List.getElem?_eq_some_iff.1 h2
        obtain ⟨hil, hie⟩ := List.getElem?_eq_some_iff.1 hi
        rcases Nat.lt_or_gt_of_ne hij with hlt | hlt
        · have := hn j i (by rw [List.length_map]; exact hjl) (by rw [List.length_map]; exact hil) hlt
          rw [List.getElem_map, List.getElem_map, hje, hie, hk, h5] at this
          exact this rfl
        · have := hn i j (by rw [List.length_map]; exact hil) (by rw [List.length_map]; exact hjl) hlt
          rw [List.getElem_map, List.getElem_map, hje, hie, hk, h5] at this
          exact this rfl
      simp only [upd, if_neg hne]
      exact h6
  · intro r hr
    have hne : r ≠ q := by
      rintro rfl
      refine hr { e0 with val := .int .i64 n } ?_ hk
      rw [hset]
      have hlt : j < es.toList.length := (List.getElem?_eq_some_iff.1 h2).1
      exact List.mem_of_getElem? (i := j) (by rw [List.getElem?_set, if_pos rfl, if_pos hlt])
    simp only [upd, if_neg hne]
    refine F.2.2 r fun x hx hxk => ?_
    obtain ⟨i, hi⟩ := List.getElem?_of_mem hx
    by_cases hij : j = i
    · subst hij
      rw [h2] at hi
      cases hi
      rw [hk] at hxk
      exact hne (keyV_inj hxk).symm
    · refine hr x ?_ hxk
      rw [hset]
      exact List.mem_of_getElem? (i := i) (by rw [List.getElem?_set, if_neg hij]; exact hi)

end Go.Proofs.Ytgkdlpbnhjfkdaa
