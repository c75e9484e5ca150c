/- Small functions below expressions: places in lists of texts, fields, the table of operations. Conditions: those of each theorem. -/
import Derived.Test.YtefcmijobbgpbaaGreatDoorExA
namespace Go.Proofs.YtefcmijobbgpbaaGreatDoor
open Go.RowKit

/-- A slice of texts, as it reads. -/
def StrSl (w : World) (bk o : Nat) (L : List ByteArray) : Prop :=
  ∀ (j : Nat) (x : ByteArray), L[j]? = some x → w.cell? ⟨bk, o + j, none⟩ = some (.string x)

theorem StrSl.keep {w w' : World} {S : List Nat} {bk o : Nat} {L : List ByteArray} (h : StrSl w bk o L) (k : Keeps S w w') (hn : bk ∉ S) : StrSl w' bk o L := fun j x hx => k.cell (h j x hx) hn

def ArgStr (w : World) (v : Value) (L : List ByteArray) : Prop :=
  ∃ ao cap, v = .slice ao L.length cap ∧ (ao = none → cap = 0 ∧ L = []) ∧ (L ≠ [] → ∃ bk o, ao = some ⟨bk, o, none⟩ ∧ StrSl w bk o L ∧ L.length ≤ cap ∧ cap ≤ 9223372036854775807)

theorem ArgStr.keep {w w' : World} {v : Value} {L : List ByteArray} (h : ArgStr w v L) (k : Keeps [] w w') : ArgStr w' v L := by
  obtain ⟨ao, cap, rfl, h1, h2⟩ := h
  refine ⟨ao, cap, rfl, h1, fun hne => ?_⟩
  obtain ⟨bk, o, rfl, h3, h4⟩ := h2 hne
  exact ⟨bk, o, rfl, h3.keep k (by simp), h4⟩

theorem idxFrom_step {v : ByteArray} {L : List ByteArray} {k : Nat} {x : ByteArray} (hx : L[k]? = some x) (n : Nat) : idxFrom v (L.drop k) n = if x.data.toList = v.data.toList then (n : Int) else idxFrom v (L.drop (k + 1)) (n + 1) := by
  have hk : k < L.length := by
    rcases Nat.lt_or_ge k L.length with h | h
    · exact h
    · rw [List.getElem?_eq_none h] at hx; cases hx
  rw [List.drop_eq_getElem_cons hk]
  have e : L[k] = x := by rw [List.getElem?_eq_getElem hk] at hx; exact Option.some.inj hx
  rw [e]
  rfl

theorem idxFrom_end {v : ByteArray} {L : List ByteArray} (n : Nat) : idxFrom v (L.drop L.length) n = -1 := by simp [idxFrom]

set_option maxHeartbeats 2000000 in
set_option maxRecDepth 100000 in
theorem index_any (L : List ByteArray) (v x : Value) (s : ByteArray) (hx : x = .string s) (w : World) (h : ArgStr w v L) :
    Calls Tryz.prog 35 #[v, x] w fun e w' => e = .returned (.int .i64 (idxFrom s L 0)) ∧ w' = w := by
  obtain ⟨ao, cap, rfl, h1, h2⟩ := h
  subst hx
  obtain ⟨n, hn⟩ : ∃ n, L.length = n := ⟨_, rfl⟩
  rw [hn]
  have HN := Lib.hid hn
  have HS := Lib.hid h2
  clear h1 h2 hn
  go_enter Tryz.func35, Tryz.ntmps35
  go_wp2_with fail
  go_loopw [8] (fun i wr => ∃ k : Nat, k ≤ n ∧ i = .int .i64 k ∧ Hid (idxFrom s L 0 = idxFrom s (L.drop k) k) ∧ w = wr) (fun i _ => n - (intOf i).toNat)
  case atStart => exact ⟨0, Nat.zero_le _, rfl, Lib.hid rfl, rfl⟩
  case round =>
    obtain ⟨k, hkn, rfl, hI, rfl⟩ := hrel
    by_cases hlt : k < n
    · have d1 : decide ((k : Int) < (n : Int)) = true := by simp; omega
      have hne : L ≠ [] := by intro e; rw [e] at HN; have := HN.out; simp at this; omega
      obtain ⟨bk, o, rfl, hsl, hcl, hcr⟩ := HS.out hne
      rw [HN.out] at hcl
      obtain ⟨y, hy⟩ : ∃ y, L[k]? = some y := ⟨L[k]'(by rw [HN.out]; omega), List.getElem?_eq_getElem _⟩
      have c0 := hsl k y hy
      have hstep := idxFrom_step (v := s) hy k
      have HST := Lib.hid hstep
      clear hstep hy hne hsl
      go_wp2_with fail
      · go_returns
        have hq : y.data.toList = s.data.toList := by
          have h : s.toList = y.toList := eq_of_beq (by assumption)
          rw [ByteArray.toList_eq, ByteArray.toList_eq] at h
          exact h.symm
        have h5 := HST.out
        rw [if_pos hq] at h5
        exact ⟨congrArg (fun z => Ending.returned (.int .i64 z)) (hI.out.trans h5).symm, rfl⟩
      · have hq : ¬ y.data.toList = s.data.toList := by
          have h : ¬ s.toList = y.toList := ne_of_beq_false (by assumption)
          rw [ByteArray.toList_eq, ByteArray.toList_eq] at h
          exact fun e => h e.symm
        have h5 := HST.out
        rw [if_neg hq] at h5
        exact ⟨⟨k + 1, by omega, by simp, Lib.hid (hI.out.trans h5), trivial⟩, by simp only [intOf]; omega⟩
    · have hke : k = n := by omega
      have d1 : decide ((k : Int) < (n : Int)) = false := by simp; omega
      have hE : idxFrom s (L.drop k) k = -1 := by rw [hke, ← HN.out]; exact idxFrom_end _
      have HE := Lib.hid hE
      clear hE
      go_wp2_with fail
      go_returns
      exact ⟨congrArg (fun z => Ending.returned (.int .i64 z)) (hI.out.trans HE.out).symm, rfl⟩

theorem idxFrom_ge (s : ByteArray) : ∀ (L : List ByteArray) (k : Nat), idxFrom s L k = -1 ∨ ((k : Int) ≤ idxFrom s L k ∧ idxFrom s L k < k + L.length)
  | [], _ => .inl rfl
  | x :: r, k => by
    simp only [idxFrom]
    split
    · right; simp only [List.length_cons]; omega
    · rcases idxFrom_ge s r (k + 1) with h | h
      · exact .inl h
      · right; simp only [List.length_cons]; omega

/-- Is a text in a list? -/
def hasM (L : List ByteArray) (s : ByteArray) : Bool := decide (0 ≤ idxFrom s L 0)
theorem hasM_eq (L : List ByteArray) (s : ByteArray) : hasM L s = decide (0 ≤ idxFrom s L 0) := rfl

set_option maxHeartbeats 200000 in
set_option maxRecDepth 100000 in
theorem contains_any (L : List ByteArray) (v x : Value) (s : ByteArray) (hx : x = .string s) (w : World) (h : ArgStr w v L) :
    Calls Tryz.prog 30 #[v, x] w fun e w' => e = .returned (.bool (hasM L s)) ∧ w' = w := by
  have H := Lib.hid (index_any L v x s hx w h)
  obtain ⟨ao, cap, rfl, _, _⟩ := h
  subst hx
  have hm := hasM_eq L s
  obtain ⟨z, hz⟩ : ∃ z, idxFrom s L 0 = z := ⟨_, rfl⟩
  obtain ⟨n, hn⟩ : ∃ n, L.length = n := ⟨_, rfl⟩
  rw [hz] at H hm
  rw [hn] at H
  rw [hm, hn]
  clear hm hz hn
  go_enter Tryz.func30, Tryz.ntmps30
  go_wp2_with fail
  refine H.out.mono ?_
  rintro e w1 ⟨rfl, rfl⟩
  go_wp2_with fail
  go_returns
  exact ⟨rfl, rfl⟩

def sFields : ByteArray := ⟨#[110, 48, 32, 110, 49, 32, 110, 50, 32, 110, 51, 32, 116, 121, 112, 101, 32, 116, 101, 120, 116]⟩
def fieldCells : Array Value := #[.string bN0, .string bN1, .string bN2, .string bN3, .string bType, .string bText]

theorem fields_const : (Lib.fields sFields.data.toList).length = 6 ∧ ((Lib.fields sFields.data.toList).map fun l => Value.string ⟨l.toArray⟩).toArray = fieldCells := by
  have h : Lib.fields sFields.data.toList = [[110, 48], [110, 49], [110, 50], [110, 51], [116, 121, 112, 101], [116, 101, 120, 116]] := by decide +kernel
  rw [h]
  exact ⟨rfl, rfl⟩

/-- What lies there from the start: also the spaces' table. -/
structure GlobX (w : World) : Prop where
  glob : Glob w
  sp : ∃ t fr, w.heap[0]? = some (.cells (Lib.asciiSpaceTab.map fun z => Value.int .u8 z).toArray t fr)

theorem GlobX.keep {w w' : World} (h : GlobX w) (k : Keeps [] w w') : GlobX w' := by
  obtain ⟨t, fr, hp⟩ := h.sp
  exact ⟨h.glob.keep k, t, fr, k.heap hp (by simp)⟩

theorem sp_tab {w : World} (h : GlobX w) : Lib.TabIs Tryz.prog w "strings.asciiSpace" .u8 Lib.asciiSpaceTab := by
  unfold Lib.TabIs World.var?
  have hg : Tryz.prog.globalNamed "strings.asciiSpace" = some 0 := by kernel_rfl
  rw [hg]
  obtain ⟨t, fr, hp⟩ := h.sp
  simp only [Option.bind_some, hp]

theorem Fields_words (w : World) (hG : GlobX w) :
    Calls Tryz.prog 48 #[.string sFields] w fun e w' => e = .returned (.slice (some ⟨w.heap.size, 0, none⟩) 6 6) ∧ w' = w.alloc (.cells fieldCells 9) := by
  have ha : ∀ b ∈ sFields.data.toList, b.toNat < 128 := by decide
  refine (Tryz.strings_Fields sFields w (by decide) (fun j b h => ha b (List.mem_of_getElem? h)) (sp_tab hG)).mono ?_
  rintro e w' ⟨h1, h2⟩
  rw [fields_const.1] at h1
  rw [fields_const.2] at h2
  exact ⟨h1, h2⟩

theorem fieldCells_str (w : World) : ArgStr (w.alloc (.cells fieldCells 9)) (.slice (some ⟨w.heap.size, 0, none⟩) 6 6) fieldWords := by
  refine ⟨_, _, rfl, (fun e => nomatch e), fun _ => ⟨w.heap.size, 0, rfl, fun j x hx => ?_, by decide, by decide⟩⟩
  have hj : j < 6 := by
    rcases Nat.lt_or_ge j 6 with h | h
    · exact h
    · rw [List.getElem?_eq_none (by exact h)] at hx; cases hx
  have hb := heap_alloc_new w (.cells fieldCells 9)
  have hc : j = 0 ∨ j = 1 ∨ j = 2 ∨ j = 3 ∨ j = 4 ∨ j = 5 := by omega
  rcases hc with rfl | rfl | rfl | rfl | rfl | rfl <;> (cases hx; simp only [World.cell?, hb]; rfl)

set_option maxHeartbeats 2000000 in
set_option maxRecDepth 100000 in
theorem field_any (s : ByteArray) (w : World) (hG : GlobX w) :
    Calls Tryz.prog 110 #[.string s] w fun e w' => e = .returned (.int .i64 (fieldI s)) ∧ Keeps [] w w' := by
  have hk0 := Keeps.refl [] w
  have HF := Lib.hid (Fields_words w hG)
  have HI := Lib.hid (index_any fieldWords _ _ s rfl _ (fieldCells_str w))
  go_enter Tryz.func110, Tryz.ntmps110
  go_wp2_with fail
  refine HF.out.mono ?_
  rintro e w1 ⟨rfl, rfl⟩
  go_wp2_with fail
  refine HI.out.mono ?_
  rintro e w2 ⟨rfl, rfl⟩
  go_wp2_with fail
  go_returns
  exact ⟨rfl, hk0.alloc _⟩

/-! ### The table of operations -/
def opFn (i : Nat) : FuncId := [60, 61, 62, 63, 64, 65, 66, 67, 68].getD i 0
def opRow (i : Nat) : List Value :=
  let o := opsL.getD i ⟨⟨#[]⟩, 0, 0, 0, 0, 0⟩
  [.string o.sign, .int .i64 o.kind, .int .i64 o.level, .int .i64 o.of_, .int .i64 o.other, .int .i64 o.is_, .func (.func (opFn i)) #[] #[]]
def opsCells : Array Value := ((List.range 9).flatMap opRow).toArray

set_option maxHeartbeats 2000000 in
set_option maxRecDepth 100000 in
theorem operations_any (w : World) :
    Calls Tryz.prog 41 #[] w fun e w' => e = .returned (.slice (some ⟨w.heap.size, 0, none⟩) 9 9) ∧ w' = w.alloc (.cells opsCells 105) := by
  go_enter Tryz.func41, Tryz.ntmps41
  go_wp2_with fail
  go_returns
  exact ⟨rfl, rfl⟩

end Go.Proofs.YtefcmijobbgpbaaGreatDoor
