/- What the walks of this seat share: worlds that keep their blocks, slices that are read and slices that are owned, append onto an owned slice. -/
import Derived.WalkKit
import Derived.WalkSpells
import Derived.WalkLawsBesides
import Derived.Deep.QuietTactic
import Derived.BigQuiet
import Derived.Deep.RegionHeld3
import Derived.Deep.RegionLaw
import Derived.StillTailTactics
import Derived.Deep.LoopGhost
import Derived.Deep.AppendLies
import Derived.Deep.DeepFit
import Derived.Lib.Hide
import Derived.KernelRfl
namespace Go.Proofs.YtfoeadiejcheiaaDoor
open Go.RowKit

theorem addr_add (b o k : Nat) : (⟨b, o, none⟩ : Addr).add k = ⟨b, o + k, none⟩ := by unfold Addr.add; split <;> simp_all

/-- All blocks but those of S are as they were. -/
structure Keeps (S : List Nat) (w w' : World) : Prop where
  os : w'.os = w.os
  tape : w'.tape = w.tape
  output : w'.output = w.output
  size : w.heap.size ≤ w'.heap.size
  block : ∀ k, k < w.heap.size → k ∉ S → w'.heap[k]? = w.heap[k]?

theorem Keeps.refl (S : List Nat) (w : World) : Keeps S w w := ⟨rfl, rfl, rfl, Nat.le_refl _, fun _ _ _ => rfl⟩

theorem Keeps.trans {S S' : List Nat} {a b c : World} (h : Keeps S a b) (k : Keeps S' b c) (hs : ∀ x ∈ S', x < a.heap.size → x ∈ S) : Keeps S a c :=
  ⟨k.os.trans h.os, k.tape.trans h.tape, k.output.trans h.output, Nat.le_trans h.size k.size, fun i hi hn =>
    (k.block i (Nat.lt_of_lt_of_le hi h.size) (fun hm => hn (hs i hm hi))).trans (h.block i hi hn)⟩

theorem Keeps.mono {S S' : List Nat} {a b : World} (h : Keeps S a b) (hs : ∀ x ∈ S, x < a.heap.size → x ∈ S') : Keeps S' a b :=
  ⟨h.os, h.tape, h.output, h.size, fun i hi hn => h.block i hi (fun hm => hn (hs i hm hi))⟩

theorem Keeps.then {S : List Nat} {a b c : World} (h : Keeps S a b) (k : Keeps [] b c) : Keeps S a c := h.trans k (by simp)

theorem Keeps.below {S : List Nat} {w w' : World} {B : Nat} (h : Keeps S w w') (hB : B ≤ w.heap.size) (hs : ∀ x ∈ S, B ≤ x) : Below B w w' :=
  ⟨h.os, h.tape, h.output, h.size, fun k hk => h.block k (by omega) (fun hm => by have := hs k hm; omega)⟩

theorem Keeps.of_below {w w' : World} (h : Below w.heap.size w w') : Keeps [] w w' := ⟨h.os, h.tape, h.output, h.size, fun k hk _ => h.block k hk⟩

theorem Keeps.drew {S : List Nat} {a w : World} (h : Keeps S a w) : Keeps S a w.drew := ⟨h.os, h.tape, h.output, h.size, h.block⟩

theorem Keeps.alloc {S : List Nat} {a w : World} (h : Keeps S a w) (o : Obj) : Keeps S a (w.alloc o) :=
  h.trans (S' := []) ⟨rfl, rfl, rfl, by simp, fun k hk _ => Below.heap_alloc _ _ _ hk⟩ (by simp)

theorem Keeps.setCell {S : List Nat} {a w : World} (h : Keeps S a w) {p : Addr} (hp : p.block ∈ S ∨ a.heap.size ≤ p.block) (u : Value) : Keeps S a (w.setCell p u) :=
  h.trans (S' := [p.block]) ⟨rfl, rfl, rfl, by simp [World.setCell], fun k _ hn => Below.heap_setCell _ _ _ _ (by simpa using hn)⟩
    (by intro x hx hlt; simp at hx; subst hx; exact hp.resolve_right (by omega))

theorem Keeps.grown {S : List Nat} {a w w' : World} {row : Option Nat} (h : Keeps S a w) (hg : w.grownBy w' row) (hr : ∀ k, row = some k → k ∈ S ∨ a.heap.size ≤ k) : Keeps S a w' :=
  h.trans (S' := row.toList) ⟨hg.os, hg.tape, hg.output, hg.size, fun k hk hn => hg.block k hk (fun e => hn (by simp [← e]))⟩
    (by intro x hx hlt; simp at hx; exact (hr x hx).resolve_right (by omega))

theorem Keeps.heap {S : List Nat} {w w' : World} (h : Keeps S w w') {k : Nat} {o : Obj} (ho : w.heap[k]? = some o) (hn : k ∉ S) : w'.heap[k]? = some o := by
  rw [h.block k (Array.getElem?_eq_some_iff.1 ho).1 hn]; exact ho

theorem Keeps.cell {S : List Nat} {w w' : World} (h : Keeps S w w') {p : Addr} {v : Value} (hc : w.cell? p = some v) (hn : p.block ∉ S) : w'.cell? p = some v :=
  (World.cell?_of_block (h.block p.block (World.block_lt_of_cell? w p hc) hn)).trans hc

theorem heap_lt {w : World} {k : Nat} {o : Obj} (h : w.heap[k]? = some o) : k < w.heap.size := (Array.getElem?_eq_some_iff.1 h).1

/-- The slice v of n elements reads as these cells. -/
def SlC (w : World) (v : Value) (n size : Nat) (cells : List Value) : Prop :=
  ∃ ao cap, v = .slice ao n cap ∧ cells.length = n * size ∧ (ao = none → n = 0 ∧ cap = 0) ∧ ∀ b, ao = some b → ∀ j u, cells[j]? = some u → w.cell? (b.add j) = some u

theorem SlC.keep {S : List Nat} {w w' : World} {v : Value} {n size : Nat} {cells : List Value} (h : SlC w v n size cells) (k : Keeps S w w') (hs : ∀ b, v.ownBlock = some b → b ∉ S) : SlC w' v n size cells := by
  obtain ⟨ao, cap, rfl, hl, hn, hc⟩ := h
  refine ⟨ao, cap, rfl, hl, hn, fun b hb j u hu => ?_⟩
  subst hb
  refine k.cell (hc b rfl j u hu) ?_
  have : (b.add j).block = b.block := by unfold Addr.add; split <;> rfl
  rw [this]; exact hs _ rfl

/-- What a slice type of this program is: its element's type, of so many cells, of so many bytes. -/
structure RowTy (P : Program) (t e size bytes : Nat) : Prop where
  und : P.underlying t = some (.slice e)
  info : (P.info? e).map (fun i => (i.zero.map (·.cells.size), i.size, i.bytes)) = some (some size, size, bytes)
  pos : 0 < size

theorem RowTy.parts {P : Program} {t e size bytes : Nat} (R : RowTy P t e size bytes) : ∃ i z, P.info? e = some i ∧ i.zero = some z ∧ i.size = size ∧ i.bytes = bytes ∧ z.cells.size = size := by
  have h := R.info
  cases hi : P.info? e with
  | none => simp [hi] at h
  | some i =>
    simp [hi] at h
    obtain ⟨⟨z, hz, hzs⟩, h2, h3⟩ := h
    exact ⟨i, z, rfl, hz, h2, h3, hzs⟩

/-- append onto an owned slice, whatever is appended. -/
theorem run_append_any {P : Program} (w : World) {t e size bytes : Nat} (R : RowTy P t e size bytes) (ty : Nat) (base : Nat)
    (v : Value) (n : Nat) (xs : List Value) (hown : w.ownsRow base e size v n xs) (sv : Value) (m : Nat) (news : List Value) (hsv : SlC w sv m size news) (h1 : ∀ u ∈ news, u.oneCell' = true)
    (hbytes : (n + m) * bytes ≤ 140737488355328) (h63 : n + m ≤ maxLen) (hbase : base ≤ w.heap.size) :
    ∃ ao cp w', (Builtin.append_ #[t, t] ty #[v, sv]).run P w = .ok (.slice ao (n + m) cp) w' ∧ w'.ownsRow base e size (.slice ao (n + m) cp) (n + m) (xs ++ news) ∧ w.grownBy w' v.ownBlock ∧
      (Value.ownBlock (.slice ao (n + m) cp) = v.ownBlock ∨ Value.ownBlock (.slice ao (n + m) cp) = some w.heap.size) ∧ (ao = none ↔ v = .slice none 0 0 ∧ m = 0) := by
  have form : ∀ (v' : Value) (w' : World) (n' : Nat) (xs' : List Value), w'.ownsRow base e size v' n' xs' → ∃ ao cp, v' = .slice ao n' cp ∧ (v' = .slice none 0 0 ↔ ao = none) := by
    intro v' w' n' xs' h
    rcases h.2 with ⟨rfl, rfl⟩ | ⟨g, cap, cur, rfl, _⟩
    · exact ⟨_, _, rfl, by simp⟩
    · exact ⟨_, _, rfl, by simp⟩
  obtain ⟨i, z, hi, hz, hs, hb, hzs⟩ := R.parts
  obtain ⟨ao, cap, rfl, hl, hn, hc⟩ := hsv
  cases ao with
  | some a =>
    obtain ⟨v', w', h1, h2, h3, h4, h5⟩ := run_append_own_at (P := P) w base t ty e i z size bytes R.und hi hz hs hb hzs R.pos v n xs hown a m cap news hl (hc a rfl) h1 h63 hbytes hbase
    obtain ⟨ao, cp, rfl, hf⟩ := form _ _ _ _ h2
    exact ⟨ao, cp, w', h1, h2, h3, h5, hf.symm.trans h4⟩
  | none =>
    obtain ⟨rfl, rfl⟩ := hn rfl
    have hnews : news = [] := List.eq_nil_of_length_eq_zero (by simpa using hl)
    subst hnews
    obtain ⟨ao, cp, rfl, hf⟩ := form _ _ _ _ hown
    refine ⟨ao, cp, w, run_append_owned_none (P := P) (w := w) base t ty e i size R.und hi _ n xs hown, by simpa using hown, ⟨rfl, rfl, rfl, Nat.le_refl _, fun _ _ _ => rfl⟩, .inl rfl, by rw [hf]; simp⟩

theorem wp_append_any {P : Program} {w : World} {o : Oper} {a : Act} {K : Act → World → Prop} {Q : Exit → Act → World → Prop} {t e size bytes : Nat} (R : RowTy P t e size bytes) (s x : Operand)
    (ho : o.op = .call { callee := .builtin .append, args := #[s, x], argTypes := #[t, t] }) (base : Nat)
    (v : Value) (n : Nat) (xs : List Value) (hs : a.eval s = v) (hown : w.ownsRow base e size v n xs)
    (sv : Value) (m : Nat) (news : List Value) (hx : a.eval x = sv) (hsv : SlC w sv m size news) (h1 : ∀ u ∈ news, u.oneCell' = true)
    (hbytes : (n + m) * bytes ≤ 140737488355328) (h63 : n + m ≤ maxLen) (hbase : base ≤ w.heap.size)
    (h : ∀ ao cp w', w'.ownsRow base e size (.slice ao (n + m) cp) (n + m) (xs ++ news) → w.grownBy w' v.ownBlock → (Value.ownBlock (.slice ao (n + m) cp) = v.ownBlock ∨ Value.ownBlock (.slice ao (n + m) cp) = some w.heap.size) → (ao = none ↔ v = .slice none 0 0 ∧ m = 0) → K (a.put o.dst (.slice ao (n + m) cp)) w') : o.wp P a w K Q := by
  obtain ⟨ao, cp, w', hr, h2, h3, h4, h5⟩ := run_append_any (P := P) w R o.type base v n xs hown sv m news hsv h1 hbytes h63 hbase
  unfold Oper.wp execOp
  simp only [ho, resolve, invoke, builtin, Sem.run_bind, Sem.run_pure, Result.andThen_ok, List.map_toArray, List.map_cons, List.map_nil, hs, hx, hr]
  exact h ao cp w' h2 h3 h4 h5

/-- In a plain region. -/
theorem list_append_any {P : Program} {w : World} {ops : Array Oper} {rest : List Oper} {o : Oper} {a : Act} {Q : Exit → Act → World → Prop} {t e size bytes : Nat} (R : RowTy P t e size bytes) (hgd : o.guard = none) (s x : Operand)
    (ho : o.op = .call { callee := .builtin .append, args := #[s, x], argTypes := #[t, t] }) (base : Nat)
    (v : Value) (n : Nat) (xs : List Value) (hs : a.eval s = v) (hown : w.ownsRow base e size v n xs)
    (sv : Value) (m : Nat) (news : List Value) (hx : a.eval x = sv) (hsv : SlC w sv m size news) (h1 : ∀ u ∈ news, u.oneCell' = true)
    (hbytes : (n + m) * bytes ≤ 140737488355328) (h63 : n + m ≤ maxLen) (hbase : base ≤ w.heap.size)
    (h : ∀ ao cp w', w'.ownsRow base e size (.slice ao (n + m) cp) (n + m) (xs ++ news) → w.grownBy w' v.ownBlock → (Value.ownBlock (.slice ao (n + m) cp) = v.ownBlock ∨ Value.ownBlock (.slice ao (n + m) cp) = some w.heap.size) → (ao = none ↔ v = .slice none 0 0 ∧ m = 0) → wpList P ops Q rest (a.put o.dst (.slice ao (n + m) cp)) w') : wpList P ops Q (o :: rest) a w :=
  wpList_plain hgd fun _ hK => wp_append_any R s x ho base v n xs hs hown sv m news hx hsv h1 hbytes h63 hbase fun ao cp w' h2 h3 h4 h5 => hK _ _ (h ao cp w' h2 h3 h4 h5)

/-- In a region that draws its order. -/
theorem step_append_any {P : Program} {w : World} {ops : Array Oper} {o : Oper} {a : Act} {K : Act → World → Prop} {Q : Exit → Act → World → Prop} {E : Prop} {t e size bytes : Nat} (R : RowTy P t e size bytes) (hgd : o.guard = none) (s x : Operand)
    (ho : o.op = .call { callee := .builtin .append, args := #[s, x], argTypes := #[t, t] }) (base : Nat)
    (v : Value) (n : Nat) (xs : List Value) (hs : a.eval s = v) (hown : w.ownsRow base e size v n xs)
    (sv : Value) (m : Nat) (news : List Value) (hx : a.eval x = sv) (hsv : SlC w sv m size news) (h1 : ∀ u ∈ news, u.oneCell' = true)
    (hbytes : (n + m) * bytes ≤ 140737488355328) (h63 : n + m ≤ maxLen) (hbase : base ≤ w.heap.size)
    (h : ∀ ao cp w', w'.ownsRow base e size (.slice ao (n + m) cp) (n + m) (xs ++ news) → w.grownBy w' v.ownBlock → (Value.ownBlock (.slice ao (n + m) cp) = v.ownBlock ∨ Value.ownBlock (.slice ao (n + m) cp) = some w.heap.size) → (ao = none ↔ v = .slice none 0 0 ∧ m = 0) → K (a.put o.dst (.slice ao (n + m) cp)) w') :
    if Region.wanted o (yielded ops a.tmps) = true then Oper.wp P o a w K Q else E := by
  have hw : Region.wanted o (yielded ops a.tmps) = true := by simp [Region.wanted, hgd]
  rw [if_pos hw]
  exact wp_append_any R s x ho base v n xs hs hown sv m news hx hsv h1 hbytes h63 hbase h

theorem heap_top {w : World} {o : Obj} {k : Nat} (h : w.heap.size = k) : (w.alloc o).heap[k]? = some o := by rw [← h]; exact heap_alloc_new w o
theorem heap_top_drew {w : World} {o : Obj} {k : Nat} (h : w.heap.size = k) : (w.alloc o).drew.heap[k]? = some o := by rw [← h]; exact heap_alloc_new w o

theorem heap_top_eq {w : World} {o o' : Obj} {k : Nat} (h : w.heap.size = k) (ho : o = o') : (w.alloc o).heap[k]? = some o' := by rw [← ho, ← h]; exact heap_alloc_new w o

theorem own_form {w : World} {base e size : Nat} {v : Value} {n : Nat} {xs : List Value} (h : w.ownsRow base e size v n xs) : ∃ ao cap, v = .slice ao n cap := by
  rcases h.2 with ⟨rfl, rfl⟩ | ⟨g, cap, cur, rfl, _⟩
  · exact ⟨_, _, rfl⟩
  · exact ⟨_, _, rfl⟩

theorem heap_set_self {w : World} {b o : Nat} {v : Value} {c : Array Value} {e : TypeId} {fr : Nat × Nat} (h : w.heap[b]? = some (.cells c e fr)) : (w.setCell ⟨b, o, none⟩ v).heap[b]? = some (.cells (c.setIfInBounds o v) e fr) := by
  simp [World.setCell, Array.getElem?_modify, h]
theorem heap_set_other {w : World} {a : Addr} {v : Value} {b : Nat} {o : Obj} (h : w.heap[b]? = some o) (hne : b ≠ a.block) : (w.setCell a v).heap[b]? = some o := by
  rw [Below.heap_setCell _ _ _ _ hne]; exact h
theorem own_set_other {w : World} {base e size : Nat} {v : Value} {n : Nat} {xs : List Value} (h : w.ownsRow base e size v n xs) {a : Addr} (u : Value) (hne : v.ownBlock ≠ some a.block) : (w.setCell a u).ownsRow base e size v n xs := by
  refine ⟨h.1, ?_⟩
  rcases h.2 with h2 | ⟨g, cap, cur, rfl, hb, hg, r⟩
  · exact .inl h2
  · exact .inr ⟨g, cap, cur, rfl, hb, heap_set_other hg (fun e => hne (by simp [Value.ownBlock, e])), r⟩

/-- A block known whole, as a slice of all its elements. -/
theorem SlC.of_block {w : World} {B : Nat} {cs : Array Value} {t : TypeId} {fr : Nat × Nat} {n cap size : Nat} (hb : w.heap[B]? = some (.cells cs t fr)) (hs : cs.size = n * size) : SlC w (.slice (some ⟨B, 0, none⟩) n cap) n size cs.toList :=
  ⟨_, _, rfl, by simpa using hs, by simp, fun b hb' j u hu => by cases hb'; exact World.news_of_block hb j u hu⟩

theorem SlC.of_own {w : World} {base e size : Nat} {v : Value} {n : Nat} {xs : List Value} (h : w.ownsRow base e size v n xs) : SlC w v n size xs := by
  rcases h.2 with ⟨rfl, rfl⟩ | ⟨g, cap, cur, rfl, hb, hg, hn, hm, hs, ht⟩
  · exact ⟨_, _, rfl, by simpa using h.1, by simp, by simp⟩
  · exact ⟨_, _, rfl, h.1, by simp, fun b hb' j u hu => by cases hb'; exact h.cells rfl j u hu⟩

theorem own_kept {w w' : World} {S : List Nat} {base e size : Nat} {v : Value} {n : Nat} {xs : List Value} (h : w.ownsRow base e size v n xs) (k : Keeps S w w') (hs : ∀ b, v.ownBlock = some b → b ∉ S) : w'.ownsRow base e size v n xs := by
  refine ⟨h.1, ?_⟩
  rcases h.2 with h2 | ⟨g, cap, cur, rfl, hb, hg, r⟩
  · exact .inl h2
  · exact .inr ⟨g, cap, cur, rfl, hb, k.heap hg (hs g rfl), r⟩

/-- Any operation whose run is known, in a plain region. -/
theorem list_run {P : Program} {w w' : World} {ops : Array Oper} {rest : List Oper} {o : Oper} {a : Act} {Q : Exit → Act → World → Prop} {v : Value} (hgd : o.guard = none)
    (hrun : (execOp a.eval o).run P w = .ok (.value v) w') (h : wpList P ops Q rest (a.put o.dst v) w') : wpList P ops Q (o :: rest) a w :=
  wpList_plain hgd fun K hK => by unfold Oper.wp; rw [hrun]; exact hK _ _ h

theorem wp_exec {P : Program} {w w' : World} {o : Oper} {a : Act} {K : Act → World → Prop} {Q : Exit → Act → World → Prop} {v : Value}
    (hrun : (execOp a.eval o).run P w = .ok (.value v) w') (h : K (a.put o.dst v) w') : o.wp P a w K Q := by unfold Oper.wp; rw [hrun]; exact h

theorem exec_append {P : Program} {w w' : World} {o : Oper} {a : Act} {s x : Operand} {t : TypeId} {v u r : Value} (ho : o.op = .call { callee := .builtin .append, args := #[s, x], argTypes := #[t, t] })
    (hs : a.eval s = v) (hx : a.eval x = u) (hrun : (Builtin.append_ #[t, t] o.type #[v, u]).run P w = .ok r w') : (execOp a.eval o).run P w = .ok (.value r) w' := by
  unfold execOp
  simp only [ho, resolve, invoke, builtin, Sem.run_bind, Sem.run_pure, Result.andThen_ok, List.map_toArray, List.map_cons, List.map_nil, hs, hx, hrun]

theorem exec_clear {P : Program} {w w' : World} {o : Oper} {a : Act} {x : Operand} {t : TypeId} {u r : Value} (ho : o.op = .call { callee := .builtin .clear, args := #[x], argTypes := #[t] })
    (hx : a.eval x = u) (hrun : (Builtin.clear_ #[t] o.type #[u]).run P w = .ok r w') : (execOp a.eval o).run P w = .ok (.value r) w' := by
  unfold execOp
  simp only [ho, resolve, invoke, builtin, Sem.run_bind, Sem.run_pure, Result.andThen_ok, List.map_toArray, List.map_cons, List.map_nil, hx, hrun]

/-- clear of one element, of cells z. -/
theorem run_clear_one {P : Program} {w : World} {t e g o c : Nat} {ty : TypeId} {cur : Array Value} {z : Value} (hu : P.underlying t = some (.slice e)) (hz : ∀ w, (zeroValue e).run P w = .ok z w)
    (h1 : ∀ v ∈ z.cells.toList, v.oneCell' = true) (_hpos : 0 < z.cells.size) (hg : w.heap[g]? = some (.cells cur e (0, 0))) (hfit : o + z.cells.size ≤ cur.size) :
    (Builtin.clear_ #[t] ty #[.slice (some ⟨g, o, none⟩) 1 c]).run P w = .ok (.tuple #[]) (w.setRow g (cur.toList.take o ++ z.cells.toList ++ cur.toList.drop (o + z.cells.size)).toArray) := by
  have hzc : (Builtin.zeroCells z.cells 1).toList = z.cells.toList := by
    apply List.ext_getElem?
    intro i
    by_cases h : i < z.cells.size
    · have hm : i % z.cells.size = i := Nat.mod_eq_of_lt h
      simp [Builtin.zeroCells, h, hm]
    · simp [Builtin.zeroCells, h]
  have hst := run_storeCells_at P g o e z.cells.toList 0 cur w hg (by simpa using hfit) h1
  simp only [Nat.add_zero, Array.length_toList] at hst
  simp [Builtin.clear_, run_underlying hu, hz, hzc, hst]

/-- clear of n elements. -/
theorem run_clear_many {P : Program} {w : World} {t e g o c n : Nat} {ty : TypeId} {cur : Array Value} {z : Value} (hu : P.underlying t = some (.slice e)) (hz : ∀ w, (zeroValue e).run P w = .ok z w)
    (h1 : ∀ v ∈ (Builtin.zeroCells z.cells (n + 1)).toList, v.oneCell' = true) (hg : w.heap[g]? = some (.cells cur e (0, 0))) (hfit : o + (n + 1) * z.cells.size ≤ cur.size) :
    (Builtin.clear_ #[t] ty #[.slice (some ⟨g, o, none⟩) (n + 1) c]).run P w = .ok (.tuple #[]) (w.setRow g (cur.toList.take o ++ (Builtin.zeroCells z.cells (n + 1)).toList ++ cur.toList.drop (o + (n + 1) * z.cells.size)).toArray) := by
  have hlen : (Builtin.zeroCells z.cells (n + 1)).toList.length = (n + 1) * z.cells.size := by simp [size_zeroCells]
  have hst := run_storeCells_at P g o e (Builtin.zeroCells z.cells (n + 1)).toList 0 cur w hg (by rw [hlen]; simpa using hfit) h1
  rw [hlen] at hst
  simp only [Nat.add_zero] at hst
  simp [Builtin.clear_, run_underlying hu, hz, hst]

theorem Keeps.setRow {S : List Nat} {a w : World} (h : Keeps S a w) {g : Nat} (hg : g ∈ S ∨ a.heap.size ≤ g) (cs : Array Value) : Keeps S a (w.setRow g cs) :=
  h.trans (S' := [g]) ⟨rfl, rfl, rfl, by simp [World.setRow], fun k _ hn => setRow_other w g k cs (by simpa using hn)⟩
    (by intro x hx hlt; simp at hx; subst hx; exact hg.resolve_right (by omega))

theorem made_one (z : Value) (hz : z.cells = #[z]) (n : Nat) : madeCells z.cells n = (List.replicate n z).toArray := by
  rw [hz]
  apply Array.ext_getElem?
  intro i
  simp [madeCells, Nat.mod_one]
  by_cases h : i < n
  · simp [h]
  · simp [h]

/-- make([]T, n), T of one cell. -/
theorem run_make_one {P : Program} (w : World) {t e bytes : Nat} {z : Value} (hu : P.underlying t = some (.slice e)) (hi : (P.info? e).map (fun i => (i.zero, i.size, i.bytes)) = some (some z, 1, bytes))
    (hz : z.cells = #[z]) (n : Nat) (hb : bytes * n ≤ 281474976710656) (hn : n ≤ 4611686018427387904) :
    (Instr.makeSlice t (.int .i64 n) (.int .i64 n)).run P w = .ok (.slice (some ⟨w.heap.size, 0, none⟩) n n) (w.alloc (.cells (List.replicate n z).toArray e (0, 0))) := by
  cases he : P.info? e with
  | none => simp [he] at hi
  | some i =>
    simp only [he, Option.map_some, Option.some.injEq, Prod.mk.injEq] at hi
    obtain ⟨h1, h2, h3⟩ := hi
    have hb' : (i.bytes : Int) * (n : Int) ≤ 281474976710656 := by
      rw [h3]
      have h : ((bytes * n : Nat) : Int) ≤ 281474976710656 := by omega
      rwa [Int.natCast_mul] at h
    have hr := run_make (P := P) w t e i z hu he h1 .i64 .i64 n n (by omega) (Int.le_refl _) hb' (by omega)
    simp only [Int.toNat_natCast, h2, Nat.mul_one, made_one z hz] at hr
    exact hr

end Go.Proofs.YtfoeadiejcheiaaDoor
