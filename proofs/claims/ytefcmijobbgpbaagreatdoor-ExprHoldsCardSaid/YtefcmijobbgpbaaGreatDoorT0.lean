/- T0: contracts and plain laws of tokens, carried over from another seat. Conditions: those of each theorem. -/
import Derived.WalkKit
import Derived.WalkSpells
import Derived.WalkLawsBesides
import Derived.Deep.QuietTactic
import Derived.BigQuiet
import Derived.Deep.RegionHeld3
import Derived.Deep.RegionLaw
import Derived.StillTailTactics
import Derived.Deep.LoopGhost
import Derived.Deep.AppendLies
import Derived.Deep.DeepFit
import Derived.Lib.Hide
import Derived.KernelRfl

set_option maxRecDepth 100000

namespace Go.Proofs.YtefcmijobbgpbaaGreatDoor
open Go.RowKit

theorem addr_add (b o k : Nat) : (⟨b, o, none⟩ : Addr).add k = ⟨b, o + k, none⟩ := by unfold Addr.add; split <;> simp_all

/-- All blocks but those of S are as they were. -/
structure Keeps (S : List Nat) (w w' : World) : Prop where
  os : w'.os = w.os
  tape : w'.tape = w.tape
  output : w'.output = w.output
  size : w.heap.size ≤ w'.heap.size
  block : ∀ k, k < w.heap.size → k ∉ S → w'.heap[k]? = w.heap[k]?

theorem Keeps.refl (S : List Nat) (w : World) : Keeps S w w := ⟨rfl, rfl, rfl, Nat.le_refl _, fun _ _ _ => rfl⟩

theorem Keeps.trans {S S' : List Nat} {a b c : World} (h : Keeps S a b) (k : Keeps S' b c) (hs : ∀ x ∈ S', x < a.heap.size → x ∈ S) : Keeps S a c :=
  ⟨k.os.trans h.os, k.tape.trans h.tape, k.output.trans h.output, Nat.le_trans h.size k.size, fun i hi hn =>
    (k.block i (Nat.lt_of_lt_of_le hi h.size) (fun hm => hn (hs i hm hi))).trans (h.block i hi hn)⟩

theorem Keeps.mono {S S' : List Nat} {a b : World} (h : Keeps S a b) (hs : ∀ x ∈ S, x < a.heap.size → x ∈ S') : Keeps S' a b :=
  ⟨h.os, h.tape, h.output, h.size, fun i hi hn => h.block i hi (fun hm => hn (hs i hm hi))⟩

theorem Keeps.then {S : List Nat} {a b c : World} (h : Keeps S a b) (k : Keeps [] b c) : Keeps S a c := h.trans k (by simp)

theorem Keeps.below {S : List Nat} {w w' : World} {B : Nat} (h : Keeps S w w') (hB : B ≤ w.heap.size) (hs : ∀ x ∈ S, B ≤ x) : Below B w w' :=
  ⟨h.os, h.tape, h.output, h.size, fun k hk => h.block k (by omega) (fun hm => by have := hs k hm; omega)⟩

theorem Keeps.of_below {w w' : World} (h : Below w.heap.size w w') : Keeps [] w w' := ⟨h.os, h.tape, h.output, h.size, fun k hk _ => h.block k hk⟩

theorem Keeps.drew {S : List Nat} {a w : World} (h : Keeps S a w) : Keeps S a w.drew := ⟨h.os, h.tape, h.output, h.size, h.block⟩

theorem Keeps.alloc {S : List Nat} {a w : World} (h : Keeps S a w) (o : Obj) : Keeps S a (w.alloc o) :=
  h.trans (S' := []) ⟨rfl, rfl, rfl, by simp, fun k hk _ => Below.heap_alloc _ _ _ hk⟩ (by simp)

theorem Keeps.setCell {S : List Nat} {a w : World} (h : Keeps S a w) {p : Addr} (hp : p.block ∈ S ∨ a.heap.size ≤ p.block) (u : Value) : Keeps S a (w.setCell p u) :=
  h.trans (S' := [p.block]) ⟨rfl, rfl, rfl, by simp [World.setCell], fun k _ hn => Below.heap_setCell _ _ _ _ (by simpa using hn)⟩
    (by intro x hx hlt; simp at hx; subst hx; exact hp.resolve_right (by omega))

theorem Keeps.grown {S : List Nat} {a w w' : World} {row : Option Nat} (h : Keeps S a w) (hg : w.grownBy w' row) (hr : ∀ k, row = some k → k ∈ S ∨ a.heap.size ≤ k) : Keeps S a w' :=
  h.trans (S' := row.toList) ⟨hg.os, hg.tape, hg.output, hg.size, fun k hk hn => hg.block k hk (fun e => hn (by simp [← e]))⟩
    (by intro x hx hlt; simp at hx; exact (hr x hx).resolve_right (by omega))

theorem Keeps.heap {S : List Nat} {w w' : World} (h : Keeps S w w') {k : Nat} {o : Obj} (ho : w.heap[k]? = some o) (hn : k ∉ S) : w'.heap[k]? = some o := by
  rw [h.block k (Array.getElem?_eq_some_iff.1 ho).1 hn]; exact ho

theorem Keeps.cell {S : List Nat} {w w' : World} (h : Keeps S w w') {p : Addr} {v : Value} (hc : w.cell? p = some v) (hn : p.block ∉ S) : w'.cell? p = some v :=
  (World.cell?_of_block (h.block p.block (World.block_lt_of_cell? w p hc) hn)).trans hc

theorem heap_lt {w : World} {k : Nat} {o : Obj} (h : w.heap[k]? = some o) : k < w.heap.size := (Array.getElem?_eq_some_iff.1 h).1

/-- The slice v of n elements reads as these cells. -/
def SlC (w : World) (v : Value) (n size : Nat) (cells : List Value) : Prop :=
  ∃ ao cap, v = .slice ao n cap ∧ cells.length = n * size ∧ (ao = none → n = 0 ∧ cap = 0) ∧ ∀ b, ao = some b → ∀ j u, cells[j]? = some u → w.cell? (b.add j) = some u

theorem SlC.keep {S : List Nat} {w w' : World} {v : Value} {n size : Nat} {cells : List Value} (h : SlC w v n size cells) (k : Keeps S w w') (hs : ∀ b, v.ownBlock = some b → b ∉ S) : SlC w' v n size cells := by
  obtain ⟨ao, cap, rfl, hl, hn, hc⟩ := h
  refine ⟨ao, cap, rfl, hl, hn, fun b hb j u hu => ?_⟩
  subst hb
  refine k.cell (hc b rfl j u hu) ?_
  have : (b.add j).block = b.block := by unfold Addr.add; split <;> rfl
  rw [this]; exact hs _ rfl

/-- What a slice type of this program is: its element's type, of so many cells, of so many bytes. -/
structure RowTy (P : Program) (t e size bytes : Nat) : Prop where
  und : P.underlying t = some (.slice e)
  info : (P.info? e).map (fun i => (i.zero.map (·.cells.size), i.size, i.bytes)) = some (some size, size, bytes)
  pos : 0 < size

theorem RowTy.parts {P : Program} {t e size bytes : Nat} (R : RowTy P t e size bytes) : ∃ i z, P.info? e = some i ∧ i.zero = some z ∧ i.size = size ∧ i.bytes = bytes ∧ z.cells.size = size := by
  have h := R.info
  cases hi : P.info? e with
  | none => simp [hi] at h
  | some i =>
    simp [hi] at h
    obtain ⟨⟨z, hz, hzs⟩, h2, h3⟩ := h
    exact ⟨i, z, rfl, hz, h2, h3, hzs⟩

/-- append onto an owned slice, whatever is appended. -/
theorem run_append_any {P : Program} (w : World) {t e size bytes : Nat} (R : RowTy P t e size bytes) (ty : Nat) (base : Nat)
    (v : Value) (n : Nat) (xs : List Value) (hown : w.ownsRow base e size v n xs) (sv : Value) (m : Nat) (news : List Value) (hsv : SlC w sv m size news) (h1 : ∀ u ∈ news, u.oneCell' = true)
    (hbytes : (n + m) * bytes ≤ 140737488355328) (h63 : n + m ≤ maxLen) (hbase : base ≤ w.heap.size) :
    ∃ ao cp w', (Builtin.append_ #[t, t] ty #[v, sv]).run P w = .ok (.slice ao (n + m) cp) w' ∧ w'.ownsRow base e size (.slice ao (n + m) cp) (n + m) (xs ++ news) ∧ w.grownBy w' v.ownBlock ∧
      (Value.ownBlock (.slice ao (n + m) cp) = v.ownBlock ∨ Value.ownBlock (.slice ao (n + m) cp) = some w.heap.size) ∧ (ao = none ↔ v = .slice none 0 0 ∧ m = 0) := by
  have form : ∀ (v' : Value) (w' : World) (n' : Nat) (xs' : List Value), w'.ownsRow base e size v' n' xs' → ∃ ao cp, v' = .slice ao n' cp ∧ (v' = .slice none 0 0 ↔ ao = none) := by
    intro v' w' n' xs' h
    rcases h.2 with ⟨rfl, rfl⟩ | ⟨g, cap, cur, rfl, _⟩
    · exact ⟨_, _, rfl, by simp⟩
    · exact ⟨_, _, rfl, by simp⟩
  obtain ⟨i, z, hi, hz, hs, hb, hzs⟩ := R.parts
  obtain ⟨ao, cap, rfl, hl, hn, hc⟩ := hsv
  cases ao with
  | some a =>
    obtain ⟨v', w', h1, h2, h3, h4, h5⟩ := run_append_own_at (P := P) w base t ty e i z size bytes R.und hi hz hs hb hzs R.pos v n xs hown a m cap news hl (hc a rfl) h1 h63 hbytes hbase
    obtain ⟨ao, cp, rfl, hf⟩ := form _ _ _ _ h2
    exact ⟨ao, cp, w', h1, h2, h3, h5, hf.symm.trans h4⟩
  | none =>
    obtain ⟨rfl, rfl⟩ := hn rfl
    have hnews : news = [] := List.eq_nil_of_length_eq_zero (by simpa using hl)
    subst hnews
    obtain ⟨ao, cp, rfl, hf⟩ := form _ _ _ _ hown
    refine ⟨ao, cp, w, run_append_owned_none (P := P) (w := w) base t ty e i size R.und hi _ n xs hown, by simpa using hown, ⟨rfl, rfl, rfl, Nat.le_refl _, fun _ _ _ => rfl⟩, .inl rfl, by rw [hf]; simp⟩

theorem wp_append_any {P : Program} {w : World} {o : Oper} {a : Act} {K : Act → World → Prop} {Q : Exit → Act → World → Prop} {t e size bytes : Nat} (R : RowTy P t e size bytes) (s x : Operand)
    (ho : o.op = .call { callee := .builtin .append, args := #[s, x], argTypes := #[t, t] }) (base : Nat)
    (v : Value) (n : Nat) (xs : List Value) (hs : a.eval s = v) (hown : w.ownsRow base e size v n xs)
    (sv : Value) (m : Nat) (news : List Value) (hx : a.eval x = sv) (hsv : SlC w sv m size news) (h1 : ∀ u ∈ news, u.oneCell' = true)
    (hbytes : (n + m) * bytes ≤ 140737488355328) (h63 : n + m ≤ maxLen) (hbase : base ≤ w.heap.size)
    (h : ∀ ao cp w', w'.ownsRow base e size (.slice ao (n + m) cp) (n + m) (xs ++ news) → w.grownBy w' v.ownBlock → (Value.ownBlock (.slice ao (n + m) cp) = v.ownBlock ∨ Value.ownBlock (.slice ao (n + m) cp) = some w.heap.size) → (ao = none ↔ v = .slice none 0 0 ∧ m = 0) → K (a.put o.dst (.slice ao (n + m) cp)) w') : o.wp P a w K Q := by
  obtain ⟨ao, cp, w', hr, h2, h3, h4, h5⟩ := run_append_any (P := P) w R o.type base v n xs hown sv m news hsv h1 hbytes h63 hbase
  unfold Oper.wp execOp
  simp only [ho, resolve, invoke, builtin, Sem.run_bind, Sem.run_pure, Result.andThen_ok, List.map_toArray, List.map_cons, List.map_nil, hs, hx, hr]
  exact h ao cp w' h2 h3 h4 h5

/-- In a plain region. -/
theorem list_append_any {P : Program} {w : World} {ops : Array Oper} {rest : List Oper} {o : Oper} {a : Act} {Q : Exit → Act → World → Prop} {t e size bytes : Nat} (R : RowTy P t e size bytes) (hgd : o.guard = none) (s x : Operand)
    (ho : o.op = .call { callee := .builtin .append, args := #[s, x], argTypes := #[t, t] }) (base : Nat)
    (v : Value) (n : Nat) (xs : List Value) (hs : a.eval s = v) (hown : w.ownsRow base e size v n xs)
    (sv : Value) (m : Nat) (news : List Value) (hx : a.eval x = sv) (hsv : SlC w sv m size news) (h1 : ∀ u ∈ news, u.oneCell' = true)
    (hbytes : (n + m) * bytes ≤ 140737488355328) (h63 : n + m ≤ maxLen) (hbase : base ≤ w.heap.size)
    (h : ∀ ao cp w', w'.ownsRow base e size (.slice ao (n + m) cp) (n + m) (xs ++ news) → w.grownBy w' v.ownBlock → (Value.ownBlock (.slice ao (n + m) cp) = v.ownBlock ∨ Value.ownBlock (.slice ao (n + m) cp) = some w.heap.size) → (ao = none ↔ v = .slice none 0 0 ∧ m = 0) → wpList P ops Q rest (a.put o.dst (.slice ao (n + m) cp)) w') : wpList P ops Q (o :: rest) a w :=
  wpList_plain hgd fun _ hK => wp_append_any R s x ho base v n xs hs hown sv m news hx hsv h1 hbytes h63 hbase fun ao cp w' h2 h3 h4 h5 => hK _ _ (h ao cp w' h2 h3 h4 h5)

/-- In a region that draws its order. -/
theorem step_append_any {P : Program} {w : World} {ops : Array Oper} {o : Oper} {a : Act} {K : Act → World → Prop} {Q : Exit → Act → World → Prop} {E : Prop} {t e size bytes : Nat} (R : RowTy P t e size bytes) (hgd : o.guard = none) (s x : Operand)
    (ho : o.op = .call { callee := .builtin .append, args := #[s, x], argTypes := #[t, t] }) (base : Nat)
    (v : Value) (n : Nat) (xs : List Value) (hs : a.eval s = v) (hown : w.ownsRow base e size v n xs)
    (sv : Value) (m : Nat) (news : List Value) (hx : a.eval x = sv) (hsv : SlC w sv m size news) (h1 : ∀ u ∈ news, u.oneCell' = true)
    (hbytes : (n + m) * bytes ≤ 140737488355328) (h63 : n + m ≤ maxLen) (hbase : base ≤ w.heap.size)
    (h : ∀ ao cp w', w'.ownsRow base e size (.slice ao (n + m) cp) (n + m) (xs ++ news) → w.grownBy w' v.ownBlock → (Value.ownBlock (.slice ao (n + m) cp) = v.ownBlock ∨ Value.ownBlock (.slice ao (n + m) cp) = some w.heap.size) → (ao = none ↔ v = .slice none 0 0 ∧ m = 0) → K (a.put o.dst (.slice ao (n + m) cp)) w') :
    if Region.wanted o (yielded ops a.tmps) = true then Oper.wp P o a w K Q else E := by
  have hw : Region.wanted o (yielded ops a.tmps) = true := by simp [Region.wanted, hgd]
  rw [if_pos hw]
  exact wp_append_any R s x ho base v n xs hs hown sv m news hx hsv h1 hbytes h63 hbase h

theorem heap_top {w : World} {o : Obj} {k : Nat} (h : w.heap.size = k) : (w.alloc o).heap[k]? = some o := by rw [← h]; exact heap_alloc_new w o
theorem heap_top_drew {w : World} {o : Obj} {k : Nat} (h : w.heap.size = k) : (w.alloc o).drew.heap[k]? = some o := by rw [← h]; exact heap_alloc_new w o

theorem heap_top_eq {w : World} {o o' : Obj} {k : Nat} (h : w.heap.size = k) (ho : o = o') : (w.alloc o).heap[k]? = some o' := by rw [← ho, ← h]; exact heap_alloc_new w o

theorem own_form {w : World} {base e size : Nat} {v : Value} {n : Nat} {xs : List Value} (h : w.ownsRow base e size v n xs) : ∃ ao cap, v = .slice ao n cap := by
  rcases h.2 with ⟨rfl, rfl⟩ | ⟨g, cap, cur, rfl, _⟩
  · exact ⟨_, _, rfl⟩
  · exact ⟨_, _, rfl⟩

theorem heap_set_self {w : World} {b o : Nat} {v : Value} {c : Array Value} {e : TypeId} {fr : Nat × Nat} (h : w.heap[b]? = some (.cells c e fr)) : (w.setCell ⟨b, o, none⟩ v).heap[b]? = some (.cells (c.setIfInBounds o v) e fr) := by
  simp [World.setCell, Array.getElem?_modify, h]
theorem heap_set_other {w : World} {a : Addr} {v : Value} {b : Nat} {o : Obj} (h : w.heap[b]? = some o) (hne : b ≠ a.block) : (w.setCell a v).heap[b]? = some o := by
  rw [Below.heap_setCell _ _ _ _ hne]; exact h
theorem own_set_other {w : World} {base e size : Nat} {v : Value} {n : Nat} {xs : List Value} (h : w.ownsRow base e size v n xs) {a : Addr} (u : Value) (hne : v.ownBlock ≠ some a.block) : (w.setCell a u).ownsRow base e size v n xs := by
  refine ⟨h.1, ?_⟩
  rcases h.2 with h2 | ⟨g, cap, cur, rfl, hb, hg, r⟩
  · exact .inl h2
  · exact .inr ⟨g, cap, cur, rfl, hb, heap_set_other hg (fun e => hne (by simp [Value.ownBlock, e])), r⟩

/-- A block known whole, as a slice of all its elements. -/
theorem SlC.of_block {w : World} {B : Nat} {cs : Array Value} {t : TypeId} {fr : Nat × Nat} {n cap size : Nat} (hb : w.heap[B]? = some (.cells cs t fr)) (hs : cs.size = n * size) : SlC w (.slice (some ⟨B, 0, none⟩) n cap) n size cs.toList :=
  ⟨_, _, rfl, by simpa using hs, by simp, fun b hb' j u hu => by cases hb'; exact World.news_of_block hb j u hu⟩

theorem SlC.of_own {w : World} {base e size : Nat} {v : Value} {n : Nat} {xs : List Value} (h : w.ownsRow base e size v n xs) : SlC w v n size xs := by
  rcases h.2 with ⟨rfl, rfl⟩ | ⟨g, cap, cur, rfl, hb, hg, hn, hm, hs, ht⟩
  · exact ⟨_, _, rfl, by simpa using h.1, by simp, by simp⟩
  · exact ⟨_, _, rfl, h.1, by simp, fun b hb' j u hu => by cases hb'; exact h.cells rfl j u hu⟩

theorem own_kept {w w' : World} {S : List Nat} {base e size : Nat} {v : Value} {n : Nat} {xs : List Value} (h : w.ownsRow base e size v n xs) (k : Keeps S w w') (hs : ∀ b, v.ownBlock = some b → b ∉ S) : w'.ownsRow base e size v n xs := by
  refine ⟨h.1, ?_⟩
  rcases h.2 with h2 | ⟨g, cap, cur, rfl, hb, hg, r⟩
  · exact .inl h2
  · exact .inr ⟨g, cap, cur, rfl, hb, k.heap hg (hs g rfl), r⟩

/-- Any operation whose run is known, in a plain region. -/
theorem list_run {P : Program} {w w' : World} {ops : Array Oper} {rest : List Oper} {o : Oper} {a : Act} {Q : Exit → Act → World → Prop} {v : Value} (hgd : o.guard = none)
    (hrun : (execOp a.eval o).run P w = .ok (.value v) w') (h : wpList P ops Q rest (a.put o.dst v) w') : wpList P ops Q (o :: rest) a w :=
  wpList_plain hgd fun K hK => by unfold Oper.wp; rw [hrun]; exact hK _ _ h

theorem wp_exec {P : Program} {w w' : World} {o : Oper} {a : Act} {K : Act → World → Prop} {Q : Exit → Act → World → Prop} {v : Value}
    (hrun : (execOp a.eval o).run P w = .ok (.value v) w') (h : K (a.put o.dst v) w') : o.wp P a w K Q := by unfold Oper.wp; rw [hrun]; exact h

theorem exec_append {P : Program} {w w' : World} {o : Oper} {a : Act} {s x : Operand} {t : TypeId} {v u r : Value} (ho : o.op = .call { callee := .builtin .append, args := #[s, x], argTypes := #[t, t] })
    (hs : a.eval s = v) (hx : a.eval x = u) (hrun : (Builtin.append_ #[t, t] o.type #[v, u]).run P w = .ok r w') : (execOp a.eval o).run P w = .ok (.value r) w' := by
  unfold execOp
  simp only [ho, resolve, invoke, builtin, Sem.run_bind, Sem.run_pure, Result.andThen_ok, List.map_toArray, List.map_cons, List.map_nil, hs, hx, hrun]

theorem exec_clear {P : Program} {w w' : World} {o : Oper} {a : Act} {x : Operand} {t : TypeId} {u r : Value} (ho : o.op = .call { callee := .builtin .clear, args := #[x], argTypes := #[t] })
    (hx : a.eval x = u) (hrun : (Builtin.clear_ #[t] o.type #[u]).run P w = .ok r w') : (execOp a.eval o).run P w = .ok (.value r) w' := by
  unfold execOp
  simp only [ho, resolve, invoke, builtin, Sem.run_bind, Sem.run_pure, Result.andThen_ok, List.map_toArray, List.map_cons, List.map_nil, hx, hrun]

/-- clear of one element, of cells z. -/
theorem run_clear_one {P : Program} {w : World} {t e g o c : Nat} {ty : TypeId} {cur : Array Value} {z : Value} (hu : P.underlying t = some (.slice e)) (hz : ∀ w, (zeroValue e).run P w = .ok z w)
    (h1 : ∀ v ∈ z.cells.toList, v.oneCell' = true) (_hpos : 0 < z.cells.size) (hg : w.heap[g]? = some (.cells cur e (0, 0))) (hfit : o + z.cells.size ≤ cur.size) :
    (Builtin.clear_ #[t] ty #[.slice (some ⟨g, o, none⟩) 1 c]).run P w = .ok (.tuple #[]) (w.setRow g (cur.toList.take o ++ z.cells.toList ++ cur.toList.drop (o + z.cells.size)).toArray) := by
  have hzc : (Builtin.zeroCells z.cells 1).toList = z.cells.toList := by
    apply List.ext_getElem?
    intro i
    by_cases h : i < z.cells.size
    · have hm : i % z.cells.size = i := Nat.mod_eq_of_lt h
      simp [Builtin.zeroCells, h, hm]
    · simp [Builtin.zeroCells, h]
  have hst := run_storeCells_at P g o e z.cells.toList 0 cur w hg (by simpa using hfit) h1
  simp only [Nat.add_zero, Array.length_toList] at hst
  simp [Builtin.clear_, run_underlying hu, hz, hzc, hst]

/-- clear of n elements. -/
theorem run_clear_many {P : Program} {w : World} {t e g o c n : Nat} {ty : TypeId} {cur : Array Value} {z : Value} (hu : P.underlying t = some (.slice e)) (hz : ∀ w, (zeroValue e).run P w = .ok z w)
    (h1 : ∀ v ∈ (Builtin.zeroCells z.cells (n + 1)).toList, v.oneCell' = true) (hg : w.heap[g]? = some (.cells cur e (0, 0))) (hfit : o + (n + 1) * z.cells.size ≤ cur.size) :
    (Builtin.clear_ #[t] ty #[.slice (some ⟨g, o, none⟩) (n + 1) c]).run P w = .ok (.tuple #[]) (w.setRow g (cur.toList.take o ++ (Builtin.zeroCells z.cells (n + 1)).toList ++ cur.toList.drop (o + (n + 1) * z.cells.size)).toArray) := by
  have hlen : (Builtin.zeroCells z.cells (n + 1)).toList.length = (n + 1) * z.cells.size := by simp [size_zeroCells]
  have hst := run_storeCells_at P g o e (Builtin.zeroCells z.cells (n + 1)).toList 0 cur w hg (by rw [hlen]; simpa using hfit) h1
  rw [hlen] at hst
  simp only [Nat.add_zero] at hst
  simp [Builtin.clear_, run_underlying hu, hz, hst]

theorem Keeps.setRow {S : List Nat} {a w : World} (h : Keeps S a w) {g : Nat} (hg : g ∈ S ∨ a.heap.size ≤ g) (cs : Array Value) : Keeps S a (w.setRow g cs) :=
  h.trans (S' := [g]) ⟨rfl, rfl, rfl, by simp [World.setRow], fun k _ hn => setRow_other w g k cs (by simpa using hn)⟩
    (by intro x hx hlt; simp at hx; subst hx; exact hg.resolve_right (by omega))

theorem made_one (z : Value) (hz : z.cells = #[z]) (n : Nat) : madeCells z.cells n = (List.replicate n z).toArray := by
  rw [hz]
  apply Array.ext_getElem?
  intro i
  simp [madeCells, Nat.mod_one]
  by_cases h : i < n
  · simp [h]
  · simp [h]

/-- make([]T, n), T of one cell. -/
theorem run_make_one {P : Program} (w : World) {t e bytes : Nat} {z : Value} (hu : P.underlying t = some (.slice e)) (hi : (P.info? e).map (fun i => (i.zero, i.size, i.bytes)) = some (some z, 1, bytes))
    (hz : z.cells = #[z]) (n : Nat) (hb : bytes * n ≤ 281474976710656) (hn : n ≤ 4611686018427387904) :
    (Instr.makeSlice t (.int .i64 n) (.int .i64 n)).run P w = .ok (.slice (some ⟨w.heap.size, 0, none⟩) n n) (w.alloc (.cells (List.replicate n z).toArray e (0, 0))) := by
  cases he : P.info? e with
  | none => simp [he] at hi
  | some i =>
    simp only [he, Option.map_some, Option.some.injEq, Prod.mk.injEq] at hi
    obtain ⟨h1, h2, h3⟩ := hi
    have hb' : (i.bytes : Int) * (n : Int) ≤ 281474976710656 := by
      rw [h3]
      have h : ((bytes * n : Nat) : Int) ≤ 281474976710656 := by omega
      rwa [Int.natCast_mul] at h
    have hr := run_make (P := P) w t e i z hu he h1 .i64 .i64 n n (by omega) (Int.le_refl _) hb' (by omega)
    simp only [Int.toNat_natCast, h2, Nat.mul_one, made_one z hz] at hr
    exact hr

end Go.Proofs.YtefcmijobbgpbaaGreatDoor

namespace Go.Proofs.YtefcmijobbgpbaaGreatDoor
open Go.RowKit

section
variable {P : Program} {ops : Array Oper} {Q : Exit → Act → World → Prop}

/-- The class of worlds: S, till one of 'fin' is done. -/
def Till (S : World → Prop) (fin : List Nat) (listed : Array Bool) (w : World) : Prop := (∀ f ∈ fin, listed.getD f false = false) → S w

def wpAnyS (P : Program) (ops : Array Oper) (Q : Exit → Act → World → Prop) (S : World → Prop) (fin : List Nat) : Nat → Array Bool → Act → World → Prop
  | 0, listed, a, w => Region.ready .any ops listed = [] ∧ Q .normal a w
  | fuel + 1, listed, a, w =>
    (Region.ready .any ops listed = [] → Q .normal a w) ∧
    ∀ i ∈ Region.ready .any ops listed, wpOp P ops Q i (fun a' w' => Till S fin (listed.setIfInBounds i true) w' ∧ wpAnyS P ops Q S fin fuel (listed.setIfInBounds i true) a' w') a w

theorem wpAny_of_S {S : World → Prop} {fin : List Nat} : ∀ (fuel : Nat) (listed : Array Bool) (a : Act) (w : World), wpAnyS P ops Q S fin fuel listed a w → wpAny P .any ops Q fuel listed a w
  | 0, _, _, _, h => h
  | fuel + 1, _, _, _, h => ⟨h.1, fun i hi => wpOp_mono (fun a' w' h' => wpAny_of_S fuel _ a' w' h'.2) (h.2 i hi)⟩

/-- One value, in every world of S (or: the operation is passed over). -/
def Steady (P : Program) (ops : Array Oper) (S : World → Prop) (o : Oper) (v : Value) (a : Act) : Prop :=
  (Region.wanted o (yielded ops a.tmps) = true ∧ ∀ w, S w → (execOp a.eval o).run P w = .ok (.value v) w) ∨
  (Region.wanted o (yielded ops a.tmps) = false ∧ v = undef)

theorem Steady.of_same {S : World → Prop} {o : Oper} {v : Value} {a a' : Act} (hy : Steady P ops S o v a) (he : execOp a'.eval o = execOp a.eval o)
    (hw : Region.wanted o (yielded ops a'.tmps) = Region.wanted o (yielded ops a.tmps)) : Steady P ops S o v a' := by
  unfold Steady at *
  rw [he, hw]
  exact hy

theorem Steady.wpOp {S : World → Prop} {i : Nat} {o : Oper} {v : Value} {a : Act} {w : World} (hi : ops[i]? = some o) (hy : Steady P ops S o v a) (hS : S w)
    {K : Act → World → Prop} (h : K (a.put o.dst v) w) : wpOp P ops Q i K a w := by
  unfold Go.wpOp
  simp only [hi]
  rcases hy with ⟨hw, hv⟩ | ⟨hw, rfl⟩
  · simp only [hw, if_true, Oper.wp, hv w hS, Oper.upon]; exact .inl h
  · simp only [hw, Bool.false_eq_true, if_false]; exact h

/-- An operation 'oj' apart from the steady 'oi': whether the value of 'oi' lies there already makes no difference to it, and it makes none to 'oi'. -/
theorem wpOp_put_steady {S : World → Prop} {j : Nat} {oi oj : Oper} {v : Value} (hj : ops[j]? = some oj) (hap : oi.apart ops oj = true)
    (hsi : ∀ cs b, oi.op ≠ .select cs b) (hsj : ∀ cs b, oj.op ≠ .select cs b)
    (hQ : ∀ c a w, Q (.panic c) (a.put oi.dst v) w → Q (.panic c) a w) {K : Act → World → Prop} {a : Act} {w : World}
    (hy : Steady P ops S oi v a) (h : wpOp P ops Q j K (a.put oi.dst v) w) :
    wpOp P ops Q j (fun a' w' => Steady P ops S oi v a' ∧ K (a'.put oi.dst v) w') a w := by
  obtain ⟨h1, h2, h3⟩ := Oper.apart_spec hap
  have keep : ∀ (a : Act), Steady P ops S oi v a → ∀ u, Steady P ops S oi v (a.put oj.dst u) := fun a hy u =>
    hy.of_same (execOp_put oi hsi a oj.dst u h3) (wanted_put oi a oj.dst u h3)
  have keepD : ∀ d, Steady P ops S oi v { a with defers := d :: a.defers } := fun d => hy.of_same rfl rfl
  unfold Go.wpOp at *
  simp only [hj] at *
  rw [wanted_put oj a oi.dst v h1] at h
  split
  · rename_i hw
    simp only [hw, if_true] at h
    rcases h with h | ⟨hasks, hlets⟩
    case inr => exact .inr ⟨by unfold Oper.asks at *; rw [execOp_put oj hsj a oi.dst v h1] at hasks; exact hasks, hlets⟩
    refine .inl ?_
    unfold Oper.wp at *
    rw [execOp_put oj hsj a oi.dst v h1] at h
    generalize (execOp a.eval oj).run P w = r at *
    cases r with
    | ok n w' =>
      cases n <;> simp only [Oper.upon] at h ⊢
      case value u => exact ⟨keep a hy u, by rw [← Act.put_comm a v u h2]; exact h⟩
      case skip => exact ⟨keep a hy _, by rw [← Act.put_comm a v undef h2]; exact h⟩
      case defer d =>
        refine ⟨keep _ (keepD d) _, ?_⟩
        rw [← Act.put_comm _ v undef h2, ← Act.put_defers]
        exact h
      case enter f args =>
        refine Calls.mono h fun e w'' he => ?_
        cases e with
        | returned u => exact ⟨keep a hy u, by rw [← Act.put_comm a v u h2]; exact he⟩
        | panicked c => exact hQ _ _ _ he
        | outgrown => exact he
      case row row args => exact Rows.mono h fun u w'' he => ⟨keep a hy u, by rw [← Act.put_comm a v u h2]; exact he⟩
    | halt x w' =>
      cases x <;> simp only [Oper.upon] at h ⊢
      case panic u => exact hQ _ _ _ h
  · rename_i hw
    simp only [hw] at h
    exact ⟨keep a hy _, by rw [← Act.put_comm a v undef h2]; exact h⟩

/-- What is done is closed: whoever is done, all that it waits for is done. -/
def Closed (ops : Array Oper) (listed : Array Bool) : Prop := listed.size = ops.size ∧ ∀ (j : Nat) (o : Oper), ops[j]? = some o → listed.getD j false = true → ∀ e ∈ o.after, Region.binds .any e = true → listed.getD e.on false = true

theorem getD_false_of_true {listed : Array Bool} {i : Nat} (h : listed.getD i true = false) : listed.getD i false = false := by
  rcases Nat.lt_or_ge i listed.size with h' | h'
  · simp [h'] at h ⊢; exact h
  · simp [Array.getElem?_eq_none h'] at h

theorem getD_set_self {listed : Array Bool} {i : Nat} (h : i < listed.size) : (listed.setIfInBounds i true).getD i false = true := by simp [h]

theorem Closed.set {listed : Array Bool} {i : Nat} (h : Closed ops listed) (hr : i ∈ Region.ready .any ops listed) : Closed ops (listed.setIfInBounds i true) := by
  refine ⟨by simpa using h.1, fun j o hj hl e he hb => ?_⟩
  by_cases hij : i = j
  · subst hij
    obtain ⟨_, oi, hoi, hall⟩ := mem_ready.1 hr
    rw [hoi] at hj
    cases hj
    exact getD_set_true (hall e he hb)
  · rw [getD_set_ne false hij] at hl
    exact getD_set_true (h.2 j o hj hl e he hb)

/-- 'f' waits for 'i', maybe through others. -/
def reaches (ops : Array Oper) : Nat → Nat → Nat → Bool
  | 0, _, _ => false
  | n + 1, f, i => match ops[f]? with
    | some o => o.after.any fun e => Region.binds .any e && (e.on == i || reaches ops n e.on i)
    | none => false

theorem Closed.reaches {listed : Array Bool} (h : Closed ops listed) : ∀ (n f i : Nat), reaches ops n f i = true → listed.getD f false = true → listed.getD i false = true := by
  intro n
  induction n with
  | zero => intro f i hr; simp [Go.Proofs.YtefcmijobbgpbaaGreatDoor.reaches] at hr
  | succ n ih =>
    intro f i hr hf
    simp only [Go.Proofs.YtefcmijobbgpbaaGreatDoor.reaches] at hr
    cases ho : ops[f]? with
    | none => simp [ho] at hr
    | some o =>
      simp only [ho] at hr
      obtain ⟨e, he, hb⟩ := Array.any_eq_true'.1 hr
      simp only [Bool.and_eq_true, Bool.or_eq_true, beq_iff_eq] at hb
      have h1 := h.2 f o ho hf e he hb.1
      rcases hb.2 with h2 | h2
      · exact h2 ▸ h1
      · exact ih e.on i h2 h1

/-- A steady operation that is ready may be taken first. 'pure': it is steady in every world; else all of 'fin' wait for it. -/
theorem wpAnyS_first {S : World → Prop} {fin : List Nat} {i : Nat} {oi : Oper} {v : Value} (hi : ops[i]? = some oi) (hsel : ∀ (j : Nat) (o : Oper) cs b, ops[j]? = some o → o.op ≠ .select cs b)
    (hQ : ∀ c a w, Q (.panic c) (a.put oi.dst v) w → Q (.panic c) a w) (hNF : i ∉ fin) (T : World → Prop) (hT : (∀ w, T w) ∨ (T = S ∧ ∀ f ∈ fin, ∃ n, reaches ops n f i = true)) :
    ∀ (fuel : Nat) (listed : Array Bool) (a : Act) (w : World), Closed ops listed →
      (∀ j oj, ops[j]? = some oj → j ≠ i → listed.getD j true = false → (∀ e ∈ oj.after, Region.binds .any e = true → e.on ≠ i) → oi.apart ops oj = true) →
      i ∈ Region.ready .any ops listed → Steady P ops T oi v a → Till S fin listed w →
      wpAnyS P ops Q S fin fuel (listed.setIfInBounds i true) (a.put oi.dst v) w → wpAnyS P ops Q S fin (fuel + 1) listed a w := by
  have hTw : ∀ (listed : Array Bool) (w : World), Closed ops listed → i ∈ Region.ready .any ops listed → Till S fin listed w → T w := by
    intro listed w hcl hr ht
    rcases hT with h | ⟨rfl, h⟩
    · exact h w
    · refine ht fun f hf => ?_
      obtain ⟨n, hn⟩ := h f hf
      cases hl : listed.getD f false with
      | false => rfl
      | true =>
        have h1 := hcl.reaches n f i hn hl
        rw [getD_false_of_true (mem_ready.1 hr).1] at h1
        cases h1
  have hTill : ∀ (listed : Array Bool) (w : World), Closed ops listed → i ∈ Region.ready .any ops listed → Till S fin listed w → Till S fin (listed.setIfInBounds i true) w := by
    intro listed w hcl hr ht hx
    refine ht fun f hf => ?_
    have h0 := hx f hf
    cases hl : listed.getD f false with
    | false => rfl
    | true => rw [getD_set_true hl] at h0; cases h0
  intro fuel
  induction fuel with
  | zero =>
    intro listed a w hcl _ hr hy ht H
    refine ⟨fun h => (by rw [h] at hr; cases hr), fun j hj => ?_⟩
    by_cases hji : j = i
    · subst hji; exact hy.wpOp hi (hTw _ _ hcl hr ht) ⟨hTill _ _ hcl hr ht, H⟩
    · have := ready_mono hj hji
      rw [H.1] at this
      cases this
  | succ fuel ih =>
    intro listed a w hcl hfree hr hy ht H
    refine ⟨fun h => (by rw [h] at hr; cases hr), fun j hj => ?_⟩
    by_cases hji : j = i
    · subst hji; exact hy.wpOp hi (hTw _ _ hcl hr ht) ⟨hTill _ _ hcl hr ht, H⟩
    · have h1 := H.2 j (ready_mono hj hji)
      obtain ⟨hjun, oj, hoj, hall⟩ := mem_ready.1 hj
      have hnot : ∀ e ∈ oj.after, Region.binds .any e = true → e.on ≠ i := fun e he hb heq => by
        have h1 := hall e he hb
        rw [heq, getD_false_of_true (mem_ready.1 hr).1] at h1
        cases h1
      have h2 := wpOp_put_steady hoj (hfree j oj hoj hji hjun hnot) (fun cs b => hsel i oi cs b hi) (fun cs b => hsel j oj cs b hoj) hQ hy h1
      have hfree' : ∀ k ok, ops[k]? = some ok → k ≠ i → (listed.setIfInBounds j true).getD k true = false →
          (∀ e ∈ ok.after, Region.binds .any e = true → e.on ≠ i) → oi.apart ops ok = true := fun k ok hk hki hun hno => by
        refine hfree k ok hk hki ?_ hno
        by_cases hjk : j = k
        · subst hjk; exact hjun
        · rw [getD_set_ne true hjk] at hun; exact hun
      have hr' := ready_mono hr (Ne.symm hji)
      refine wpOp_mono (fun a' w' h3 => ?_) h2
      have hc : (listed.setIfInBounds i true).setIfInBounds j true = (listed.setIfInBounds j true).setIfInBounds i true := (Array.setIfInBounds_comm _ _ hji).symm
      have hti : Till S fin (listed.setIfInBounds j true) w' := by
        intro hx
        refine h3.2.1 fun f hf => ?_
        rw [hc]
        rw [getD_set_ne false (fun hif => hNF (by rw [hif]; exact hf))]
        exact hx f hf
      refine ⟨hti, ih (listed.setIfInBounds j true) a' w' (hcl.set hj) hfree' hr' h3.1 hti ?_⟩
      rw [← hc]
      exact h3.2.2

/-- Is operation i steady at this point: ready, apart from all that do not wait for it, and (unless it is steady in every world) waited for by all of 'fin'? -/
def steadyB (ops : Array Oper) (fin : List Nat) (listed : Array Bool) (i : Nat) (pure : Bool) : Bool :=
  Region.free .any ops listed i && (Region.ready .any ops listed).contains i && !fin.contains i && (pure || fin.all fun f => reaches ops ops.size f i)

/-- The whole order at once: (i, 0): steady in every world; (i, 1): steady in the worlds of S; (i, 2): the one that is ready, behind it S holds; (i, 3): the same, one of 'fin' is done. -/
def orderB (ops : Array Oper) (fin : List Nat) : List (Nat × Nat) → Array Bool → Bool
  | [], listed => (Region.ready .any ops listed).isEmpty
  | (i, k) :: r, listed =>
    (if k = 0 then steadyB ops fin listed i true else if k = 1 then steadyB ops fin listed i false else
      (Region.ready .any ops listed == [i]) && (k = 2 || fin.any fun f => (listed.setIfInBounds i true).getD f false)) && orderB ops fin r (listed.setIfInBounds i true)

def wpC (P : Program) (ops : Array Oper) (Q : Exit → Act → World → Prop) (S : World → Prop) : List (Nat × Nat) → Act → World → Prop
  | [], a, w => Q .normal a w
  | (i, k) :: r, a, w =>
    match ops[i]? with
    | none => False
    | some o =>
      if k = 0 then ∃ v, Steady P ops (fun _ => True) o v a ∧ wpC P ops Q S r (a.put o.dst v) w
      else if k = 1 then ∃ v, Steady P ops S o v a ∧ wpC P ops Q S r (a.put o.dst v) w
      else if k = 2 then wpOp P ops Q i (fun a' w' => S w' ∧ wpC P ops Q S r a' w') a w
      else wpOp P ops Q i (fun a' w' => wpC P ops Q S r a' w') a w

theorem wpC_sound {S : World → Prop} {fin : List Nat} (hs : Region.noSelect ops = true) (hQ : ∀ c d v a w, Q (.panic c) (Act.put a d v) w → Q (.panic c) a w) :
    ∀ (order : List (Nat × Nat)) (listed : Array Bool) (a : Act) (w : World) (fuel : Nat), orderB ops fin order listed = true → order.length ≤ fuel → Closed ops listed → Till S fin listed w →
      wpC P ops Q S order a w → wpAnyS P ops Q S fin fuel listed a w
  | [], listed, a, w, fuel, hB, _, _, _, h => by
    have hr : Region.ready .any ops listed = [] := by simpa [orderB] using hB
    cases fuel with
    | zero => exact ⟨hr, h⟩
    | succ n => exact ⟨fun _ => h, by rw [hr]; simp⟩
  | (i, k) :: r, listed, a, w, fuel, hB, hf, hcl, ht, h => by
    obtain ⟨fuel, rfl⟩ : ∃ n, fuel = n + 1 := ⟨fuel - 1, by simp at hf; omega⟩
    have hf' : r.length ≤ fuel := by simpa using hf
    simp only [orderB, Bool.and_eq_true] at hB
    obtain ⟨hB1, hB2⟩ := hB
    simp only [wpC] at h
    cases ho : ops[i]? with
    | none => simp [ho] at h
    | some o =>
      simp only [ho] at h
      have steady : ∀ (pure : Bool) (v : Value), steadyB ops fin listed i pure = true → Steady P ops (if pure then (fun _ => True) else S) o v a → wpC P ops Q S r (a.put o.dst v) w → wpAnyS P ops Q S fin (fuel + 1) listed a w := by
        intro pure v hst hy hw
        simp only [steadyB, Bool.and_eq_true, Bool.not_eq_true'] at hst
        obtain ⟨⟨⟨hfr, hrd⟩, hnf⟩, hp⟩ := hst
        have hrd' : i ∈ Region.ready .any ops listed := by simpa using hrd
        have hnf' : i ∉ fin := by simpa using hnf
        refine wpAnyS_first ho (Region.noSelect_spec hs) (fun c a w => hQ c _ _ a w) hnf' _ ?_ fuel listed a w hcl (Region.free_spec ho hfr) hrd' hy ht ?_
        · cases pure with
          | true => exact .inl fun _ => trivial
          | false => exact .inr ⟨rfl, fun f hf => ⟨ops.size, by simp only [Bool.false_or, List.all_eq_true] at hp; exact hp f hf⟩⟩
        · refine wpC_sound hs hQ r _ _ _ fuel hB2 hf' (hcl.set hrd') ?_ hw
          intro hx
          refine ht fun f hf => ?_
          have h0 := hx f hf
          cases hl : listed.getD f false with
          | false => rfl
          | true => rw [getD_set_true hl] at h0; cases h0
      by_cases k0 : k = 0
      · simp only [k0, if_true] at h hB1
        obtain ⟨v, hy, hw⟩ := h
        exact steady true v hB1 hy hw
      · by_cases k1 : k = 1
        · subst k1
          simp only [Nat.one_ne_zero, if_false, if_true] at h hB1
          obtain ⟨v, hy, hw⟩ := h
          exact steady false v hB1 hy hw
        · simp only [k0, k1, if_false, Bool.and_eq_true, beq_iff_eq] at h hB1
          obtain ⟨hr, hk⟩ := hB1
          have hrd' : i ∈ Region.ready .any ops listed := by rw [hr]; simp
          refine ⟨fun h0 => (by rw [h0] at hr; cases hr), fun j hj => ?_⟩
          rw [hr] at hj
          have hji : j = i := by simpa using hj
          subst hji
          by_cases k2 : k = 2
          · simp only [k2, if_true] at h
            exact wpOp_mono (fun a' w' ⟨h1, h2⟩ => ⟨fun _ => h1, wpC_sound hs hQ r _ _ _ fuel hB2 hf' (hcl.set hrd') (fun _ => h1) h2⟩) h
          · simp only [k2, if_false] at h
            simp only [k2, decide_false, Bool.false_or] at hk
            obtain ⟨f, hfm, hff⟩ := List.any_eq_true.1 hk
            have htill : ∀ w', Till S fin (listed.setIfInBounds j true) w' := fun w' hx => by
              have := hx f hfm
              rw [hff] at this
              cases this
            exact wpOp_mono (fun a' w' h2 => ⟨htill w', wpC_sound hs hQ r _ _ _ fuel hB2 hf' (hcl.set hrd') (htill w') h2⟩) h

/-- THE LAW: a region that draws, walked in one order. -/
theorem wp_region_chain {id : Nat} {a : Act} {w : World} (S : World → Prop) (fin : List Nat) (order : List (Nat × Nat)) (hm : P.follows .mixedOrders = true)
    (hB : (Region.noSelect ops && orderB ops fin order (Array.replicate ops.size false) && decide (order.length ≤ ops.size)) = true)
    (hQ : ∀ c d v a w, Q (.panic c) (Act.put a d v) w → Q (.panic c) a w) (hS : S w.drew) (h : wpC P ops Q S order a w.drew) : (Code.region id ops true).wp P Q a w := by
  simp only [Bool.and_eq_true, decide_eq_true_eq] at hB
  refine wp_region_any hm (wpAny_of_S (S := S) (fin := fin) _ _ _ _ ?_)
  refine wpC_sound hB.1.1 hQ order _ _ _ _ hB.1.2 hB.2 ⟨by simp, fun j o hj hl => ?_⟩ (fun _ => hS) h
  exfalso
  rcases Nat.lt_or_ge j ops.size with hlt | hge
  · simp [hlt] at hl
  · rw [Array.getElem?_eq_none hge] at hj; cases hj

theorem wpC_nil {S : World → Prop} {a : Act} {w : World} (h : Q .normal a w) : wpC P ops Q S [] a w := h

theorem wpC_pure {S : World → Prop} {i : Nat} {r : List (Nat × Nat)} {o : Oper} {v : Value} {a : Act} {w : World} (ho : ops[i]? = some o) (hw : Region.wanted o (yielded ops a.tmps) = true)
    (hv : ∀ w, (execOp a.eval o).run P w = .ok (.value v) w) (h : wpC P ops Q S r (a.put o.dst v) w) : wpC P ops Q S ((i, 0) :: r) a w := by
  simp only [wpC, ho, if_true]; exact ⟨v, .inl ⟨hw, fun w _ => hv w⟩, h⟩

theorem wpC_held {S : World → Prop} {i : Nat} {r : List (Nat × Nat)} {o : Oper} {v : Value} {a : Act} {w : World} (ho : ops[i]? = some o) (hw : Region.wanted o (yielded ops a.tmps) = true)
    (hv : ∀ w, S w → (execOp a.eval o).run P w = .ok (.value v) w) (h : wpC P ops Q S r (a.put o.dst v) w) : wpC P ops Q S ((i, 1) :: r) a w := by
  simp only [wpC, ho, Nat.one_ne_zero, if_false, if_true]; exact ⟨v, .inl ⟨hw, hv⟩, h⟩

/-- An operation whose guard says no. -/
theorem wpC_pass {S : World → Prop} {i k : Nat} {r : List (Nat × Nat)} {o : Oper} {a : Act} {w : World} (ho : ops[i]? = some o) (hw : Region.wanted o (yielded ops a.tmps) = false) (hk : k = 0 ∨ k = 1 ∨ k = 3)
    (h : wpC P ops Q S r (a.put o.dst undef) w) : wpC P ops Q S ((i, k) :: r) a w := by
  simp only [wpC, ho]
  rcases hk with rfl | rfl | rfl
  · simp only [if_true]; exact ⟨undef, .inr ⟨hw, rfl⟩, h⟩
  · simp only [Nat.one_ne_zero, if_false, if_true]; exact ⟨undef, .inr ⟨hw, rfl⟩, h⟩
  · simp [wpOp, ho, hw]; exact h

theorem wpC_step {S : World → Prop} {i : Nat} {r : List (Nat × Nat)} {o : Oper} {a : Act} {w : World} (ho : ops[i]? = some o) (hw : Region.wanted o (yielded ops a.tmps) = true)
    (h : ∀ K : Act → World → Prop, (∀ a' w', S w' → wpC P ops Q S r a' w' → K a' w') → Oper.wp P o a w K Q) : wpC P ops Q S ((i, 2) :: r) a w := by
  simp only [wpC, ho]
  simp only [wpOp, ho, hw, if_true]
  exact .inl (h _ fun a' w' h1 h2 => ⟨h1, h2⟩)

theorem wpC_last {S : World → Prop} {i : Nat} {r : List (Nat × Nat)} {o : Oper} {a : Act} {w : World} (ho : ops[i]? = some o) (hw : Region.wanted o (yielded ops a.tmps) = true)
    (h : ∀ K : Act → World → Prop, (∀ a' w', wpC P ops Q S r a' w' → K a' w') → Oper.wp P o a w K Q) : wpC P ops Q S ((i, 3) :: r) a w := by
  simp only [wpC, ho]
  simp only [wpOp, ho, hw, if_true]
  exact .inl (h _ fun a' w' h2 => h2)

end
end Go.Proofs.YtefcmijobbgpbaaGreatDoor

namespace Go.Proofs.YtefcmijobbgpbaaGreatDoor
open Go.RowKit

/-- A tree of orders: an operation (kinds as in orderB); two that may come up. -/
inductive OT where
  | done : OT
  | op : Nat → Nat → OT → OT
  | alt : Nat → OT → Nat → OT → OT

section
variable {P : Program} {ops : Array Oper} {Q : Exit → Act → World → Prop}

def orderT (ops : Array Oper) (fin : List Nat) : OT → Array Bool → Bool
  | .done, listed => (Region.ready .any ops listed).isEmpty
  | .op i k r, listed =>
    (if k = 0 then steadyB ops fin listed i true else if k = 1 then steadyB ops fin listed i false else
      (Region.ready .any ops listed == [i]) && (k = 2 || fin.any fun f => (listed.setIfInBounds i true).getD f false)) && orderT ops fin r (listed.setIfInBounds i true)
  | .alt i ri j rj, listed => (Region.ready .any ops listed == [i, j]) && orderT ops fin ri (listed.setIfInBounds i true) && orderT ops fin rj (listed.setIfInBounds j true)

def OT.depth : OT → Nat
  | .done => 0
  | .op _ _ r => r.depth + 1
  | .alt _ ri _ rj => max ri.depth rj.depth + 1

def wpT (P : Program) (ops : Array Oper) (Q : Exit → Act → World → Prop) (S : World → Prop) : OT → Act → World → Prop
  | .done, a, w => Q .normal a w
  | .op i k r, a, w =>
    match ops[i]? with
    | none => False
    | some o =>
      if k = 0 then ∃ v, Steady P ops (fun _ => True) o v a ∧ wpT P ops Q S r (a.put o.dst v) w
      else if k = 1 then ∃ v, Steady P ops S o v a ∧ wpT P ops Q S r (a.put o.dst v) w
      else if k = 2 then wpOp P ops Q i (fun a' w' => S w' ∧ wpT P ops Q S r a' w') a w
      else wpOp P ops Q i (fun a' w' => wpT P ops Q S r a' w') a w
  | .alt i ri j rj, a, w => wpOp P ops Q i (fun a' w' => S w' ∧ wpT P ops Q S ri a' w') a w ∧ wpOp P ops Q j (fun a' w' => S w' ∧ wpT P ops Q S rj a' w') a w

theorem wpT_sound {S : World → Prop} {fin : List Nat} (hs : Region.noSelect ops = true) (hQ : ∀ c d v a w, Q (.panic c) (Act.put a d v) w → Q (.panic c) a w) :
    ∀ (order : OT) (listed : Array Bool) (a : Act) (w : World) (fuel : Nat), orderT ops fin order listed = true → order.depth ≤ fuel → Closed ops listed → Till S fin listed w →
      wpT P ops Q S order a w → wpAnyS P ops Q S fin fuel listed a w
  | .done, listed, a, w, fuel, hB, _, _, _, h => by
    have hr : Region.ready .any ops listed = [] := by simpa [orderT] using hB
    cases fuel with
    | zero => exact ⟨hr, h⟩
    | succ n => exact ⟨fun _ => h, by rw [hr]; simp⟩
  | .alt i ri j rj, listed, a, w, fuel, hB, hf, hcl, ht, h => by
    obtain ⟨fuel, rfl⟩ : ∃ n, fuel = n + 1 := ⟨fuel - 1, by simp only [OT.depth] at hf; omega⟩
    simp only [OT.depth] at hf
    simp only [orderT, Bool.and_eq_true, beq_iff_eq] at hB
    obtain ⟨⟨hr, hi⟩, hj⟩ := hB
    obtain ⟨h1, h2⟩ := h
    refine ⟨fun h0 => (by rw [h0] at hr; cases hr), fun x hx => ?_⟩
    have hx' := hx
    rw [hr] at hx
    simp only [List.mem_cons, List.not_mem_nil, or_false] at hx
    rcases hx with rfl | rfl
    · exact wpOp_mono (fun a' w' ⟨h3, h4⟩ => ⟨fun _ => h3, wpT_sound hs hQ ri _ _ _ fuel hi (by omega) (hcl.set hx') (fun _ => h3) h4⟩) h1
    · exact wpOp_mono (fun a' w' ⟨h3, h4⟩ => ⟨fun _ => h3, wpT_sound hs hQ rj _ _ _ fuel hj (by omega) (hcl.set hx') (fun _ => h3) h4⟩) h2
  | .op i k r, listed, a, w, fuel, hB, hf, hcl, ht, h => by
    obtain ⟨fuel, rfl⟩ : ∃ n, fuel = n + 1 := ⟨fuel - 1, by simp only [OT.depth] at hf; omega⟩
    have hf' : r.depth ≤ fuel := by simp only [OT.depth] at hf; omega
    simp only [orderT, Bool.and_eq_true] at hB
    obtain ⟨hB1, hB2⟩ := hB
    simp only [wpT] at h
    cases ho : ops[i]? with
    | none => simp [ho] at h
    | some o =>
      simp only [ho] at h
      have steady : ∀ (pure : Bool) (v : Value), steadyB ops fin listed i pure = true → Steady P ops (if pure then (fun _ => True) else S) o v a → wpT P ops Q S r (a.put o.dst v) w → wpAnyS P ops Q S fin (fuel + 1) listed a w := by
        intro pure v hst hy hw
        simp only [steadyB, Bool.and_eq_true, Bool.not_eq_true'] at hst
        obtain ⟨⟨⟨hfr, hrd⟩, hnf⟩, hp⟩ := hst
        have hrd' : i ∈ Region.ready .any ops listed := by simpa using hrd
        have hnf' : i ∉ fin := by simpa using hnf
        refine wpAnyS_first ho (Region.noSelect_spec hs) (fun c a w => hQ c _ _ a w) hnf' _ ?_ fuel listed a w hcl (Region.free_spec ho hfr) hrd' hy ht ?_
        · cases pure with
          | true => exact .inl fun _ => trivial
          | false => exact .inr ⟨rfl, fun f hf => ⟨ops.size, by simp only [Bool.false_or, List.all_eq_true] at hp; exact hp f hf⟩⟩
        · refine wpT_sound hs hQ r _ _ _ fuel hB2 hf' (hcl.set hrd') ?_ hw
          intro hx
          refine ht fun f hf => ?_
          have h0 := hx f hf
          cases hl : listed.getD f false with
          | false => rfl
          | true => rw [getD_set_true hl] at h0; cases h0
      by_cases k0 : k = 0
      · simp only [k0, if_true] at h hB1
        obtain ⟨v, hy, hw⟩ := h
        exact steady true v hB1 hy hw
      · by_cases k1 : k = 1
        · subst k1
          simp only [Nat.one_ne_zero, if_false, if_true] at h hB1
          obtain ⟨v, hy, hw⟩ := h
          exact steady false v hB1 hy hw
        · simp only [k0, k1, if_false, Bool.and_eq_true, beq_iff_eq] at h hB1
          obtain ⟨hr, hk⟩ := hB1
          have hrd' : i ∈ Region.ready .any ops listed := by rw [hr]; simp
          refine ⟨fun h0 => (by rw [h0] at hr; cases hr), fun j hj => ?_⟩
          rw [hr] at hj
          have hji : j = i := by simpa using hj
          subst hji
          by_cases k2 : k = 2
          · simp only [k2, if_true] at h
            exact wpOp_mono (fun a' w' ⟨h1, h2⟩ => ⟨fun _ => h1, wpT_sound hs hQ r _ _ _ fuel hB2 hf' (hcl.set hrd') (fun _ => h1) h2⟩) h
          · simp only [k2, if_false] at h
            simp only [k2, decide_false, Bool.false_or] at hk
            obtain ⟨f, hfm, hff⟩ := List.any_eq_true.1 hk
            have htill : ∀ w', Till S fin (listed.setIfInBounds j true) w' := fun w' hx => by
              have := hx f hfm
              rw [hff] at this
              cases this
            exact wpOp_mono (fun a' w' h2 => ⟨htill w', wpT_sound hs hQ r _ _ _ fuel hB2 hf' (hcl.set hrd') (htill w') h2⟩) h

/-- THE LAW: a region that draws, walked along a tree of orders. -/
theorem wp_region_tree {id : Nat} {a : Act} {w : World} (S : World → Prop) (fin : List Nat) (order : OT) (hm : P.follows .mixedOrders = true)
    (hB : (Region.noSelect ops && orderT ops fin order (Array.replicate ops.size false) && decide (order.depth ≤ ops.size)) = true)
    (hQ : ∀ c d v a w, Q (.panic c) (Act.put a d v) w → Q (.panic c) a w) (hS : S w.drew) (h : wpT P ops Q S order a w.drew) : (Code.region id ops true).wp P Q a w := by
  simp only [Bool.and_eq_true, decide_eq_true_eq] at hB
  refine wp_region_any hm (wpAny_of_S (S := S) (fin := fin) _ _ _ _ ?_)
  refine wpT_sound hB.1.1 hQ order _ _ _ _ hB.1.2 hB.2 ⟨by simp, fun j o hj hl => ?_⟩ (fun _ => hS) h
  exfalso
  rcases Nat.lt_or_ge j ops.size with hlt | hge
  · simp [hlt] at hl
  · rw [Array.getElem?_eq_none hge] at hj; cases hj

theorem wpT_done {S : World → Prop} {a : Act} {w : World} (h : Q .normal a w) : wpT P ops Q S .done a w := h

theorem wpT_pure {S : World → Prop} {i : Nat} {r : OT} {o : Oper} {v : Value} {a : Act} {w : World} (ho : ops[i]? = some o) (hw : Region.wanted o (yielded ops a.tmps) = true)
    (hv : ∀ w, (execOp a.eval o).run P w = .ok (.value v) w) (h : wpT P ops Q S r (a.put o.dst v) w) : wpT P ops Q S (.op i 0 r) a w := by
  simp only [wpT, ho, if_true]; exact ⟨v, .inl ⟨hw, fun w _ => hv w⟩, h⟩

theorem wpT_held {S : World → Prop} {i : Nat} {r : OT} {o : Oper} {v : Value} {a : Act} {w : World} (ho : ops[i]? = some o) (hw : Region.wanted o (yielded ops a.tmps) = true)
    (hv : ∀ w, S w → (execOp a.eval o).run P w = .ok (.value v) w) (h : wpT P ops Q S r (a.put o.dst v) w) : wpT P ops Q S (.op i 1 r) a w := by
  simp only [wpT, ho, Nat.one_ne_zero, if_false, if_true]; exact ⟨v, .inl ⟨hw, hv⟩, h⟩

/-- An operation whose guard says no. -/
theorem wpT_pass {S : World → Prop} {i k : Nat} {r : OT} {o : Oper} {a : Act} {w : World} (ho : ops[i]? = some o) (hw : Region.wanted o (yielded ops a.tmps) = false) (hk : k = 0 ∨ k = 1 ∨ k = 3)
    (h : wpT P ops Q S r (a.put o.dst undef) w) : wpT P ops Q S (.op i k r) a w := by
  simp only [wpT, ho]
  rcases hk with rfl | rfl | rfl
  · simp only [if_true]; exact ⟨undef, .inr ⟨hw, rfl⟩, h⟩
  · simp only [Nat.one_ne_zero, if_false, if_true]; exact ⟨undef, .inr ⟨hw, rfl⟩, h⟩
  · simp [wpOp, ho, hw]; exact h

theorem wpT_pass2 {S : World → Prop} {i : Nat} {r : OT} {o : Oper} {a : Act} {w : World} (ho : ops[i]? = some o) (hw : Region.wanted o (yielded ops a.tmps) = false) (hS : S w)
    (h : wpT P ops Q S r (a.put o.dst undef) w) : wpT P ops Q S (.op i 2 r) a w := by
  simp only [wpT, ho]
  simp only [wpOp, ho, hw, Bool.false_eq_true, if_false]
  exact ⟨hS, h⟩

theorem wpT_altpass {S : World → Prop} {i j : Nat} {ri rj : OT} {oi oj : Oper} {a : Act} {w : World} (hi : ops[i]? = some oi) (hj : ops[j]? = some oj) (hwi : Region.wanted oi (yielded ops a.tmps) = false) (hwj : Region.wanted oj (yielded ops a.tmps) = false)
    (hS : S w) (h1 : wpT P ops Q S ri (a.put oi.dst undef) w) (h2 : wpT P ops Q S rj (a.put oj.dst undef) w) : wpT P ops Q S (.alt i ri j rj) a w := by
  simp only [wpT]
  simp only [wpOp, hi, hj, hwi, hwj, Bool.false_eq_true, if_false]
  exact ⟨⟨hS, h1⟩, ⟨hS, h2⟩⟩

theorem wpT_step {S : World → Prop} {i : Nat} {r : OT} {o : Oper} {a : Act} {w : World} (ho : ops[i]? = some o) (hw : Region.wanted o (yielded ops a.tmps) = true)
    (h : ∀ K : Act → World → Prop, (∀ a' w', S w' → wpT P ops Q S r a' w' → K a' w') → Oper.wp P o a w K Q) : wpT P ops Q S (.op i 2 r) a w := by
  simp only [wpT, ho]
  simp only [wpOp, ho, hw, if_true]
  exact .inl (h _ fun a' w' h1 h2 => ⟨h1, h2⟩)

theorem wpT_last {S : World → Prop} {i : Nat} {r : OT} {o : Oper} {a : Act} {w : World} (ho : ops[i]? = some o) (hw : Region.wanted o (yielded ops a.tmps) = true)
    (h : ∀ K : Act → World → Prop, (∀ a' w', wpT P ops Q S r a' w' → K a' w') → Oper.wp P o a w K Q) : wpT P ops Q S (.op i 3 r) a w := by
  simp only [wpT, ho]
  simp only [wpOp, ho, hw, if_true]
  exact .inl (h _ fun a' w' h2 => h2)

/-- Two that may come up: each, and the rest behind it. -/
theorem wpT_alt {S : World → Prop} {i j : Nat} {ri rj : OT} {oi oj : Oper} {a : Act} {w : World} (hi : ops[i]? = some oi) (hj : ops[j]? = some oj) (hwi : Region.wanted oi (yielded ops a.tmps) = true) (hwj : Region.wanted oj (yielded ops a.tmps) = true)
    (h1 : ∀ K : Act → World → Prop, (∀ a' w', S w' → wpT P ops Q S ri a' w' → K a' w') → Oper.wp P oi a w K Q)
    (h2 : ∀ K : Act → World → Prop, (∀ a' w', S w' → wpT P ops Q S rj a' w' → K a' w') → Oper.wp P oj a w K Q) : wpT P ops Q S (.alt i ri j rj) a w := by
  simp only [wpT]
  simp only [wpOp, hi, hj, hwi, hwj, if_true]
  exact ⟨.inl (h1 _ fun a' w' h1 h2 => ⟨h1, h2⟩), .inl (h2 _ fun a' w' h1 h2 => ⟨h1, h2⟩)⟩

end
end Go.Proofs.YtefcmijobbgpbaaGreatDoor

namespace Go.Proofs.YtefcmijobbgpbaaGreatDoor
open Go.RowKit

section
variable {P : Program} {ops : Array Oper} {Q : Exit → Act → World → Prop}

/-- As wpAnyS; behind an operation of 'sw' the class of worlds may be another one. -/
def wpAnyW (P : Program) (ops : Array Oper) (Q : Exit → Act → World → Prop) (fin sw : List Nat) : Nat → (World → Prop) → Array Bool → Act → World → Prop
  | 0, _, listed, a, w => Region.ready .any ops listed = [] ∧ Q .normal a w
  | fuel + 1, S, listed, a, w =>
    (Region.ready .any ops listed = [] → Q .normal a w) ∧
    ∀ i ∈ Region.ready .any ops listed, wpOp P ops Q i (fun a' w' => ∃ S' : World → Prop, (i ∉ sw → S' = S) ∧ Till S' fin (listed.setIfInBounds i true) w' ∧ wpAnyW P ops Q fin sw fuel S' (listed.setIfInBounds i true) a' w') a w

theorem wpAny_of_W {fin sw : List Nat} : ∀ (fuel : Nat) (S : World → Prop) (listed : Array Bool) (a : Act) (w : World), wpAnyW P ops Q fin sw fuel S listed a w → wpAny P .any ops Q fuel listed a w
  | 0, _, _, _, _, h => h
  | fuel + 1, _, _, _, _, h => ⟨h.1, fun i hi => wpOp_mono (fun a' w' ⟨S', _, _, h'⟩ => wpAny_of_W fuel S' _ a' w' h') (h.2 i hi)⟩

/-- A steady operation that is ready may be taken first. 'pure': it is steady in every world; else all of 'fin' wait for it. -/
theorem wpAnyW_first {fin sw : List Nat} {i : Nat} {oi : Oper} {v : Value} (hi : ops[i]? = some oi) (hsel : ∀ (j : Nat) (o : Oper) cs b, ops[j]? = some o → o.op ≠ .select cs b)
    (hQ : ∀ c a w, Q (.panic c) (a.put oi.dst v) w → Q (.panic c) a w) (hNF : i ∉ fin) (hNW : i ∉ sw) :
    ∀ (fuel : Nat) (S T : World → Prop) (listed : Array Bool) (_hT : (∀ w, T w) ∨ (T = S ∧ (∀ f ∈ fin, ∃ n, reaches ops n f i = true) ∧ ∀ f ∈ sw, listed.getD f false = true ∨ ∃ n, reaches ops n f i = true)) (a : Act) (w : World), Closed ops listed →
      (∀ j oj, ops[j]? = some oj → j ≠ i → listed.getD j true = false → (∀ e ∈ oj.after, Region.binds .any e = true → e.on ≠ i) → oi.apart ops oj = true) →
      i ∈ Region.ready .any ops listed → Steady P ops T oi v a → Till S fin listed w →
      wpAnyW P ops Q fin sw fuel S (listed.setIfInBounds i true) (a.put oi.dst v) w → wpAnyW P ops Q fin sw (fuel + 1) S listed a w := by
  have hTw : ∀ (S T : World → Prop) (listed : Array Bool) (_hT : (∀ w, T w) ∨ (T = S ∧ (∀ f ∈ fin, ∃ n, reaches ops n f i = true) ∧ ∀ f ∈ sw, listed.getD f false = true ∨ ∃ n, reaches ops n f i = true)) (w : World), Closed ops listed → i ∈ Region.ready .any ops listed → Till S fin listed w → T w := by
    intro S T listed hT w hcl hr ht
    rcases hT with h | ⟨rfl, h, _⟩
    · exact h w
    · refine ht fun f hf => ?_
      obtain ⟨n, hn⟩ := h f hf
      cases hl : listed.getD f false with
      | false => rfl
      | true =>
        have h1 := hcl.reaches n f i hn hl
        rw [getD_false_of_true (mem_ready.1 hr).1] at h1
        cases h1
  have hTill : ∀ (S : World → Prop) (listed : Array Bool) (w : World), Closed ops listed → i ∈ Region.ready .any ops listed → Till S fin listed w → Till S fin (listed.setIfInBounds i true) w := by
    intro S listed w hcl hr ht hx
    refine ht fun f hf => ?_
    have h0 := hx f hf
    cases hl : listed.getD f false with
    | false => rfl
    | true => rw [getD_set_true hl] at h0; cases h0
  intro fuel
  induction fuel with
  | zero =>
    intro S T listed hT a w hcl _ hr hy ht H
    refine ⟨fun h => (by rw [h] at hr; cases hr), fun j hj => ?_⟩
    by_cases hji : j = i
    · subst hji; exact hy.wpOp hi (hTw _ _ _ hT _ hcl hr ht) ⟨S, fun _ => rfl, hTill _ _ _ hcl hr ht, H⟩
    · have := ready_mono hj hji
      rw [H.1] at this
      cases this
  | succ fuel ih =>
    intro S T listed hT a w hcl hfree hr hy ht H
    refine ⟨fun h => (by rw [h] at hr; cases hr), fun j hj => ?_⟩
    by_cases hji : j = i
    · subst hji; exact hy.wpOp hi (hTw _ _ _ hT _ hcl hr ht) ⟨S, fun _ => rfl, hTill _ _ _ hcl hr ht, H⟩
    · have h1 := H.2 j (ready_mono hj hji)
      obtain ⟨hjun, oj, hoj, hall⟩ := mem_ready.1 hj
      have hnot : ∀ e ∈ oj.after, Region.binds .any e = true → e.on ≠ i := fun e he hb heq => by
        have h1 := hall e he hb
        rw [heq, getD_false_of_true (mem_ready.1 hr).1] at h1
        cases h1
      have h2 := wpOp_put_steady hoj (hfree j oj hoj hji hjun hnot) (fun cs b => hsel i oi cs b hi) (fun cs b => hsel j oj cs b hoj) hQ hy h1
      have hfree' : ∀ k ok, ops[k]? = some ok → k ≠ i → (listed.setIfInBounds j true).getD k true = false →
          (∀ e ∈ ok.after, Region.binds .any e = true → e.on ≠ i) → oi.apart ops ok = true := fun k ok hk hki hun hno => by
        refine hfree k ok hk hki ?_ hno
        by_cases hjk : j = k
        · subst hjk; exact hjun
        · rw [getD_set_ne true hjk] at hun; exact hun
      have hr' := ready_mono hr (Ne.symm hji)
      refine wpOp_mono (fun a' w' h3 => ?_) h2
      obtain ⟨h31, S', hS', h32, h33⟩ := h3
      have hT' : (∀ w, T w) ∨ (T = S' ∧ (∀ f ∈ fin, ∃ n, reaches ops n f i = true) ∧ ∀ f ∈ sw, (listed.setIfInBounds j true).getD f false = true ∨ ∃ n, reaches ops n f i = true) := by
        rcases hT with h | ⟨h, h1, h'⟩
        · exact .inl h
        · refine .inr ⟨?_, h1, fun f hf => (h' f hf).imp getD_set_true id⟩
          by_cases hjs : j ∈ sw
          · exfalso
            have hjr : ∃ n, reaches ops n j i = true := by
              rcases h' j hjs with h2 | h2
              · rw [getD_false_of_true (mem_ready.1 hj).1] at h2
                cases h2
              · exact h2
            obtain ⟨n, hn⟩ := hjr
            have hjl : j < listed.size := by
              rcases Nat.lt_or_ge j listed.size with h | h
              · exact h
              · rw [hcl.1] at h
                rw [Array.getElem?_eq_none h] at hoj
                cases hoj
            have h5 := (hcl.set hj).reaches n j i hn (getD_set_self hjl)
            rw [getD_set_ne false hji, getD_false_of_true (mem_ready.1 hr).1] at h5
            cases h5
          · rw [hS' hjs, h]
      have hc : (listed.setIfInBounds i true).setIfInBounds j true = (listed.setIfInBounds j true).setIfInBounds i true := (Array.setIfInBounds_comm _ _ hji).symm
      have hti : Till S' fin (listed.setIfInBounds j true) w' := by
        intro hx
        refine h32 fun f hf => ?_
        rw [hc]
        rw [getD_set_ne false (fun hif => hNF (by rw [hif]; exact hf))]
        exact hx f hf
      refine ⟨S', hS', hti, ih S' T (listed.setIfInBounds j true) hT' a' w' (hcl.set hj) hfree' hr' h31 hti ?_⟩
      rw [← hc]
      exact h33

def steadyW (ops : Array Oper) (fin sw : List Nat) (listed : Array Bool) (i : Nat) (pure : Bool) : Bool :=
  Region.free .any ops listed i && (Region.ready .any ops listed).contains i && !(fin ++ sw).contains i && (pure || (fin.all fun f => reaches ops ops.size f i) && sw.all fun f => listed.getD f false || reaches ops ops.size f i)

/-- As orderB; (i, 4): the one that is ready, of 'sw': behind it another fact holds. -/
def orderW (ops : Array Oper) (fin sw : List Nat) : List (Nat × Nat) → Array Bool → Bool
  | [], listed => (Region.ready .any ops listed).isEmpty
  | (i, k) :: r, listed =>
    (if k = 0 then steadyW ops fin sw listed i true else if k = 1 then steadyW ops fin sw listed i false else
      (Region.ready .any ops listed == [i]) && (k = 2 || (if k = 4 then sw.contains i else fin.any fun f => (listed.setIfInBounds i true).getD f false))) && orderW ops fin sw r (listed.setIfInBounds i true)

def wpD (P : Program) (ops : Array Oper) (Q : Exit → Act → World → Prop) : List (Nat × Nat) → (World → Prop) → Act → World → Prop
  | [], _, a, w => Q .normal a w
  | (i, k) :: r, S, a, w =>
    match ops[i]? with
    | none => False
    | some o =>
      if k = 0 then ∃ v, Steady P ops (fun _ => True) o v a ∧ wpD P ops Q r S (a.put o.dst v) w
      else if k = 1 then ∃ v, Steady P ops S o v a ∧ wpD P ops Q r S (a.put o.dst v) w
      else if k = 2 then wpOp P ops Q i (fun a' w' => S w' ∧ wpD P ops Q r S a' w') a w
      else if k = 4 then wpOp P ops Q i (fun a' w' => ∃ S' : World → Prop, S' w' ∧ wpD P ops Q r S' a' w') a w
      else wpOp P ops Q i (fun a' w' => wpD P ops Q r S a' w') a w

theorem wpD_sound {fin sw : List Nat} (hs : Region.noSelect ops = true) (hQ : ∀ c d v a w, Q (.panic c) (Act.put a d v) w → Q (.panic c) a w) :
    ∀ (order : List (Nat × Nat)) (S : World → Prop) (listed : Array Bool) (a : Act) (w : World) (fuel : Nat), orderW ops fin sw order listed = true → order.length ≤ fuel → Closed ops listed → Till S fin listed w →
      wpD P ops Q order S a w → wpAnyW P ops Q fin sw fuel S listed a w
  | [], S, listed, a, w, fuel, hB, _, _, _, h => by
    have hr : Region.ready .any ops listed = [] := by simpa [orderW] using hB
    cases fuel with
    | zero => exact ⟨hr, h⟩
    | succ n => exact ⟨fun _ => h, by rw [hr]; simp⟩
  | (i, k) :: r, S, listed, a, w, fuel, hB, hf, hcl, ht, h => by
    obtain ⟨fuel, rfl⟩ : ∃ n, fuel = n + 1 := ⟨fuel - 1, by simp at hf; omega⟩
    have hf' : r.length ≤ fuel := by simpa using hf
    simp only [orderW, Bool.and_eq_true] at hB
    obtain ⟨hB1, hB2⟩ := hB
    simp only [wpD] at h
    cases ho : ops[i]? with
    | none => simp [ho] at h
    | some o =>
      simp only [ho] at h
      have steady : ∀ (pure : Bool) (v : Value), steadyW ops fin sw listed i pure = true → Steady P ops (if pure then (fun _ => True) else S) o v a → wpD P ops Q r S (a.put o.dst v) w → wpAnyW P ops Q fin sw (fuel + 1) S listed a w := by
        intro pure v hst hy hw
        simp only [steadyW, Bool.and_eq_true, Bool.not_eq_true'] at hst
        obtain ⟨⟨⟨hfr, hrd⟩, hnf⟩, hp⟩ := hst
        have hrd' : i ∈ Region.ready .any ops listed := by simpa using hrd
        have hnf' : i ∉ fin ++ sw := by simpa using hnf
        refine wpAnyW_first ho (Region.noSelect_spec hs) (fun c a w => hQ c _ _ a w) (fun h => hnf' (List.mem_append_left _ h)) (fun h => hnf' (List.mem_append_right _ h)) fuel S _ listed ?_ a w hcl (Region.free_spec ho hfr) hrd' hy ht ?_
        · cases pure with
          | true => exact .inl fun _ => trivial
          | false =>
            simp only [Bool.false_or, Bool.and_eq_true, List.all_eq_true, Bool.or_eq_true] at hp
            exact .inr ⟨rfl, fun f hf => ⟨ops.size, hp.1 f hf⟩, fun f hf => (hp.2 f hf).imp id fun h => ⟨ops.size, h⟩⟩
        · refine wpD_sound hs hQ r _ _ _ _ fuel hB2 hf' (hcl.set hrd') ?_ hw
          intro hx
          refine ht fun f hf => ?_
          have h0 := hx f hf
          cases hl : listed.getD f false with
          | false => rfl
          | true => rw [getD_set_true hl] at h0; cases h0
      by_cases k0 : k = 0
      · simp only [k0, if_true] at h hB1
        obtain ⟨v, hy, hw⟩ := h
        exact steady true v hB1 hy hw
      · by_cases k1 : k = 1
        · subst k1
          simp only [Nat.one_ne_zero, if_false, if_true] at h hB1
          obtain ⟨v, hy, hw⟩ := h
          exact steady false v hB1 hy hw
        · simp only [k0, k1, if_false, Bool.and_eq_true, beq_iff_eq] at h hB1
          obtain ⟨hr, hk⟩ := hB1
          have hrd' : i ∈ Region.ready .any ops listed := by rw [hr]; simp
          refine ⟨fun h0 => (by rw [h0] at hr; cases hr), fun j hj => ?_⟩
          rw [hr] at hj
          have hji : j = i := by simpa using hj
          subst hji
          by_cases k2 : k = 2
          · simp only [k2, if_true] at h
            exact wpOp_mono (fun a' w' ⟨h1, h2⟩ => ⟨S, fun _ => rfl, fun _ => h1, wpD_sound hs hQ r _ _ _ _ fuel hB2 hf' (hcl.set hrd') (fun _ => h1) h2⟩) h
          · by_cases k4 : k = 4
            · subst k4
              have hsw : j ∈ sw := by
                simp only [k2, decide_false, Bool.false_or, if_true] at hk
                simpa using hk
              simp only [k2, if_false, if_true] at h
              exact wpOp_mono (fun a' w' ⟨S', h1, h2⟩ => ⟨S', fun hn => absurd hsw hn, fun _ => h1, wpD_sound hs hQ r _ _ _ _ fuel hB2 hf' (hcl.set hrd') (fun _ => h1) h2⟩) h
            · simp only [k2, k4, if_false] at h
              simp only [k2, k4, decide_false, Bool.false_or, if_false] at hk
              obtain ⟨f, hfm, hff⟩ := List.any_eq_true.1 hk
              have htill : ∀ w', Till S fin (listed.setIfInBounds j true) w' := fun w' hx => by
                have := hx f hfm
                rw [hff] at this
                cases this
              exact wpOp_mono (fun a' w' h2 => ⟨S, fun _ => rfl, htill w', wpD_sound hs hQ r _ _ _ _ fuel hB2 hf' (hcl.set hrd') (htill w') h2⟩) h

/-- THE LAW: a region that draws, walked in one order; behind each of 'sw' another fact may be named. -/
theorem wp_region_switch {id : Nat} {a : Act} {w : World} (S : World → Prop) (fin sw : List Nat) (order : List (Nat × Nat)) (hm : P.follows .mixedOrders = true)
    (hB : (Region.noSelect ops && orderW ops fin sw order (Array.replicate ops.size false) && decide (order.length ≤ ops.size)) = true)
    (hQ : ∀ c d v a w, Q (.panic c) (Act.put a d v) w → Q (.panic c) a w) (hS : S w.drew) (h : wpD P ops Q order S a w.drew) : (Code.region id ops true).wp P Q a w := by
  simp only [Bool.and_eq_true, decide_eq_true_eq] at hB
  refine wp_region_any hm (wpAny_of_W (fin := fin) (sw := sw) _ S _ _ _ ?_)
  refine wpD_sound hB.1.1 hQ order _ _ _ _ _ hB.1.2 hB.2 ⟨by simp, fun j o hj hl => ?_⟩ (fun _ => hS) h
  exfalso
  rcases Nat.lt_or_ge j ops.size with hlt | hge
  · simp [hlt] at hl
  · rw [Array.getElem?_eq_none hge] at hj; cases hj

theorem wpD_nil {S : World → Prop} {a : Act} {w : World} (h : Q .normal a w) : wpD P ops Q [] S a w := h

theorem wpD_pure {S : World → Prop} {i : Nat} {r : List (Nat × Nat)} {o : Oper} {v : Value} {a : Act} {w : World} (ho : ops[i]? = some o) (hw : Region.wanted o (yielded ops a.tmps) = true)
    (hv : ∀ w, (execOp a.eval o).run P w = .ok (.value v) w) (h : wpD P ops Q r S (a.put o.dst v) w) : wpD P ops Q ((i, 0) :: r) S a w := by
  simp only [wpD, ho, if_true]; exact ⟨v, .inl ⟨hw, fun w _ => hv w⟩, h⟩

theorem wpD_held {S : World → Prop} {i : Nat} {r : List (Nat × Nat)} {o : Oper} {v : Value} {a : Act} {w : World} (ho : ops[i]? = some o) (hw : Region.wanted o (yielded ops a.tmps) = true)
    (hv : ∀ w, S w → (execOp a.eval o).run P w = .ok (.value v) w) (h : wpD P ops Q r S (a.put o.dst v) w) : wpD P ops Q ((i, 1) :: r) S a w := by
  simp only [wpD, ho, Nat.one_ne_zero, if_false, if_true]; exact ⟨v, .inl ⟨hw, hv⟩, h⟩

/-- An operation whose guard says no. -/
theorem wpD_pass {S : World → Prop} {i k : Nat} {r : List (Nat × Nat)} {o : Oper} {a : Act} {w : World} (ho : ops[i]? = some o) (hw : Region.wanted o (yielded ops a.tmps) = false) (hk : k = 0 ∨ k = 1 ∨ k = 3)
    (h : wpD P ops Q r S (a.put o.dst undef) w) : wpD P ops Q ((i, k) :: r) S a w := by
  simp only [wpD, ho]
  rcases hk with rfl | rfl | rfl
  · simp only [if_true]; exact ⟨undef, .inr ⟨hw, rfl⟩, h⟩
  · simp only [Nat.one_ne_zero, if_false, if_true]; exact ⟨undef, .inr ⟨hw, rfl⟩, h⟩
  · simp [wpOp, ho, hw]; exact h

theorem wpD_step {S : World → Prop} {i : Nat} {r : List (Nat × Nat)} {o : Oper} {a : Act} {w : World} (ho : ops[i]? = some o) (hw : Region.wanted o (yielded ops a.tmps) = true)
    (h : ∀ K : Act → World → Prop, (∀ a' w', S w' → wpD P ops Q r S a' w' → K a' w') → Oper.wp P o a w K Q) : wpD P ops Q ((i, 2) :: r) S a w := by
  simp only [wpD, ho]
  simp only [wpOp, ho, hw, if_true]
  exact .inl (h _ fun a' w' h1 h2 => ⟨h1, h2⟩)

theorem wpD_last {S : World → Prop} {i : Nat} {r : List (Nat × Nat)} {o : Oper} {a : Act} {w : World} (ho : ops[i]? = some o) (hw : Region.wanted o (yielded ops a.tmps) = true)
    (h : ∀ K : Act → World → Prop, (∀ a' w', wpD P ops Q r S a' w' → K a' w') → Oper.wp P o a w K Q) : wpD P ops Q ((i, 3) :: r) S a w := by
  simp only [wpD, ho]
  simp only [wpOp, ho, hw, if_true]
  exact .inl (h _ fun a' w' h2 => h2)

theorem wpD_switch {S : World → Prop} {i : Nat} {r : List (Nat × Nat)} {o : Oper} {a : Act} {w : World} (ho : ops[i]? = some o) (hw : Region.wanted o (yielded ops a.tmps) = true)
    (h : ∀ K : Act → World → Prop, (∀ a' w' (S' : World → Prop), S' w' → wpD P ops Q r S' a' w' → K a' w') → Oper.wp P o a w K Q) : wpD P ops Q ((i, 4) :: r) S a w := by
  simp only [wpD, ho]
  simp only [wpOp, ho, hw, if_true]
  exact .inl (h _ fun a' w' S' h1 h2 => ⟨S', h1, h2⟩)

end
end Go.Proofs.YtefcmijobbgpbaaGreatDoor
