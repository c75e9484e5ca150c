/- Contracts of strconv.ParseUint and of one. Conditions: those of each theorem. -/
import Derived.Test.YtfoeadiejcheiaaDoorTokO
namespace Go.Proofs.YtfoeadiejcheiaaDoor
open Go.RowKit

/-- What a sentinel may hold. -/
def IsErr (v : Value) : Prop := v = .nilIface ∨ ∃ te pe, v = .iface te pe

set_option maxHeartbeats 1000000 in
theorem parse_fit (s : ByteArray) (w : World) (hne : 0 < s.size) (hd : ∀ c ∈ s.data.toList, isDigit c = true) (hs : s.size ≤ 281474976710656) (hle : numVal s.data.toList ≤ 9223372036854775807) :
    Calls Tryd.prog 25 #[.string s, .int .i64 10, .int .i64 63] w fun e w' => e = .returned (.tuple #[.int .u64 (numVal s.data.toList : Nat), .nilIface]) ∧ Keeps [] w w' := by
  have H0 := fun w => parseIn_any s w hne hd (by omega)
  unfold parseV at H0
  rw [if_pos hle] at H0
  have H := fun w => Lib.hid (H0 w)
  clear H0
  generalize numVal s.data.toList = n at *
  go_enter Tryd.func25, Tryd.ntmps25
  go_wp2_with (go_at_call 37; refine (H _).out.mono ?_; rintro e w' ⟨rfl, hk⟩)
  go_returns
  exact ⟨rfl, hk⟩

set_option maxHeartbeats 1000000 in
theorem parse_over (s : ByteArray) (w : World) (hne : 0 < s.size) (hd : ∀ c ∈ s.data.toList, isDigit c = true) (hs : s.size ≤ 281474976710656) (he : ∃ ev, w.cell? ⟨4, 0, none⟩ = some ev ∧ IsErr ev) (hle : ¬ numVal s.data.toList ≤ 9223372036854775807) :
    Calls Tryd.prog 25 #[.string s, .int .i64 10, .int .i64 63] w fun e w' => (∃ N : Nat, e = .returned (.tuple #[.int .u64 9223372036854775807, .iface 85 (.pointer (some ⟨N, 0, none⟩))])) ∧ Keeps [] w w' := by
  have H0 := fun w => parseIn_any s w hne hd (by omega)
  unfold parseV at H0
  rw [if_neg hle] at H0
  have H := fun w => Lib.hid (H0 w)
  clear H0
  obtain ⟨ev, hev, hi⟩ := he
  go_enter Tryd.func25, Tryd.ntmps25
  go_wp2_with (first
    | (go_at_call 37; refine (H _).out.mono ?_; rintro e w' ⟨rfl, hk⟩)
    | (go_at_call 38; refine (Tryd.strconv_toError_range _ s _ _ ev _ hs (hk.cell hev (by simp)) hi).mono ?_; rintro e w2 ⟨N, rfl, _, _, hb⟩))
  go_returns
  exact ⟨⟨N, rfl⟩, hk.then (Keeps.of_below hb)⟩

theorem drew_block {w : World} {B : Nat} {o : Obj} (h : w.heap[B]? = some o) : w.drew.heap[B]? = some o := h
theorem set01_block {w : World} {B : Nat} {a b c d : Value} {t : TypeId} (h : w.heap[B]? = some (.cells #[a, b, c, d] t)) (p q : Value) :
    ((w.setCell ⟨B, 0, none⟩ p).setCell ⟨B, 1, none⟩ q).heap[B]? = some (.cells #[p, q, c, d] t (0, 0)) := by
  rw [heap_set_self (heap_set_self h)]
  rfl
theorem set02_block {w : World} {B : Nat} {a b c d : Value} {t : TypeId} (h : w.heap[B]? = some (.cells #[a, b, c, d] t)) (p q : Value) :
    ((w.setCell ⟨B, 0, none⟩ p).setCell ⟨B, 2, none⟩ q).heap[B]? = some (.cells #[p, b, q, d] t (0, 0)) := by
  rw [heap_set_self (heap_set_self h)]
  rfl

/-- What lies there from the start: the table of classes, an error. -/
structure Glob (w : World) : Prop where
  tab : Tab w
  err : ∃ ev, w.cell? ⟨4, 0, none⟩ = some ev ∧ IsErr ev
  pow : ∃ t fr, w.heap[1]? = some (.cells (Lib.pow10Tab.map fun z => Value.int .u64 z).toArray t fr)

theorem run_alnum (s : ByteArray) (at_ B : Nat) (w : World) (hT : Tab w) (hat : at_ ≤ s.size) (hs : s.size ≤ 4611686018427387904) (hB : w.heap[B]? = some (.cells #[.int .u8 2, .int .u8 3] 5 (0, 0))) :
    Calls Tryd.prog 15 #[.string s, .int .i64 (at_ : Int), .slice (some ⟨B, 0, none⟩) 2 2] w fun e w' => e = .returned (.int .i64 ((at_ + spanN isAlnum (s.data.toList.drop at_) : Nat) : Int)) ∧ Keeps [] w w' := by
  have h := run_any s at_ _ ⟨#[2, 3]⟩ w hT (conv_bytes [2, 3] w B hB) hat hs
  rw [funext inCls_alnum] at h
  exact h
theorem run_digit (s : ByteArray) (at_ B : Nat) (w : World) (hT : Tab w) (hat : at_ ≤ s.size) (hs : s.size ≤ 4611686018427387904) (hB : w.heap[B]? = some (.cells #[.int .u8 3] 5 (0, 0))) :
    Calls Tryd.prog 15 #[.string s, .int .i64 (at_ : Int), .slice (some ⟨B, 0, none⟩) 1 1] w fun e w' => e = .returned (.int .i64 ((at_ + spanN isDigit (s.data.toList.drop at_) : Nat) : Int)) ∧ Keeps [] w w' := by
  have h := run_any s at_ _ ⟨#[3]⟩ w hT (conv_bytes [3] w B hB) hat hs
  rw [funext inCls_digit] at h
  exact h
theorem run_blank (s : ByteArray) (at_ B : Nat) (w : World) (hT : Tab w) (hat : at_ ≤ s.size) (hs : s.size ≤ 4611686018427387904) (hB : w.heap[B]? = some (.cells #[.int .u8 1] 5 (0, 0))) :
    Calls Tryd.prog 15 #[.string s, .int .i64 (at_ : Int), .slice (some ⟨B, 0, none⟩) 1 1] w fun e w' => e = .returned (.int .i64 ((at_ + spanN isBlank (s.data.toList.drop at_) : Nat) : Int)) ∧ Keeps [] w w' := by
  have h := run_any s at_ _ ⟨#[1]⟩ w hT (conv_bytes [1] w B hB) hat hs
  rw [funext inCls_blank] at h
  exact h

set_option maxHeartbeats 4000000 in
set_option maxRecDepth 100000 in
theorem one_letter (s : ByteArray) (at_ : Nat) (w : World) (hG : Glob w) (hat : at_ < s.size) (hs : s.size ≤ 281474976710656) (hl : isLetter s[at_] = true) :
    Calls Tryd.prog 16 #[.string s, .int .i64 (at_ : Int)] w fun e w' => OneOut s at_ True e ∧ Keeps [] w w' := by
  have hk0 := Keeps.refl [] w
  have b0 : (0 : Int) ≤ (at_ : Int) := by omega
  have b1 : (at_ : Int) < (s.size : Int) := by omega
  have HG := Lib.hid hG
  have HC := fun w h => Lib.hid (class_any s[at_] w h)
  have hcl : clsI s[at_] = 2 := by
    have := cls_letter s[at_]
    rw [hl, beq_iff_eq] at this
    exact this
  rw [hcl] at HC
  have HO := Lib.hid (oneIs_word hat hl)
  clear hG hcl hl
  go_enter Tryd.func16, Tryd.ntmps16
  go_wp2_with (first
    | (go_at_call 24; refine (HC _ (HG.out.tab.keep (hk0.alloc _) (by simp))).out.mono ?_; rintro e w' ⟨rfl, rfl⟩))
  have hk1 := (hk0.alloc (.cells #[.int .i64 0, .string (⟨#[]⟩ : ByteArray), .int .i64 0, .int .i64 at_] 34 (0, 0))).alloc (.cells #[.int .u8 2, .int .u8 3] 5 (0, 0))
  have hB0 := heap_alloc_new w (.cells #[.int .i64 0, .string (⟨#[]⟩ : ByteArray), .int .i64 0, .int .i64 at_] 34 (0, 0))
  have hB1 := heap_alloc2_new w (.cells #[.int .i64 0, .string (⟨#[]⟩ : ByteArray), .int .i64 0, .int .i64 at_] 34 (0, 0)) (.cells #[.int .u8 2, .int .u8 3] 5 (0, 0))
  generalize hW : ((w.alloc (.cells #[.int .i64 0, .string (⟨#[]⟩ : ByteArray), .int .i64 0, .int .i64 at_] 34 (0, 0))).alloc (.cells #[.int .u8 2, .int .u8 3] 5 (0, 0))) = W at *
  have hB2 : W.heap[w.heap.size]? = some (.cells #[.int .i64 0, .string (⟨#[]⟩ : ByteArray), .int .i64 0, .int .i64 at_] 34 (0, 0)) := by
    rw [← hW]
    exact (Keeps.alloc (Keeps.refl [] _) _).heap hB0 (by simp)
  clear hW hB0
  refine (run_alnum s at_ (w.heap.size + 1) W (HG.out.tab.keep hk1 (by simp)) (Nat.le_of_lt hat) (by omega) hB1).mono ?_
  rintro e w2 ⟨rfl, hk2⟩
  obtain ⟨c0, c1, c2, c3, z0, z1, z2, z3⟩ := tok_block (hk2.heap hB2 (by simp))
  have hsp := spanN_le isAlnum (s.data.toList.drop at_)
  have hsl : (s.data.toList.drop at_).length = s.size - at_ := by rw [List.length_drop]; rfl
  generalize spanN isAlnum (s.data.toList.drop at_) = k at *
  have q1 : (at_ : Int) ≤ (at_ : Int) + k := by omega
  have q2 : (at_ : Int) + k ≤ (s.size : Int) := by omega
  have q3 : IntKind.i64.wrap ((at_ : Int) + k - (at_ : Int)) = (k : Int) := (IntWalk.i64_in _ (by omega)).trans (by omega)
  clear hsp hsl
  go_wp2_with fail
  refine wp_region_chain (fun _ => True) [] [(0, 0), (1, 0), (2, 0), (3, 0), (4, 0), (5, 2), (6, 0), (7, 2)] (by kernel_rfl) (by kernel_rfl) (fun _ d _ _ _ h => by cases d <;> exact h) trivial ?_
  repeat (first
    | (refine wpC_pure (v := ?_) rfl (by rfl) ?_ ?_
       rotate_left 1
       · (intro w; go_simp; try with_reducible rfl)
       try simp only [Act.put, List.setIfInBounds_toArray, List.set_cons_zero, List.set_cons_succ, List.getElem_toArray, List.getElem_cons_succ, List.getElem_cons_zero]))
  refine wpC_step rfl (by rfl) (fun K hK => ?_)
  go_simp
  refine hK _ _ trivial ?_
  clear hK K
  try simp only [Act.put, List.setIfInBounds_toArray, List.set_cons_zero, List.set_cons_succ, List.getElem_toArray, List.getElem_cons_succ, List.getElem_cons_zero]
  repeat (first
    | (refine wpC_pure (v := ?_) rfl (by rfl) ?_ ?_
       rotate_left 1
       · (intro w; go_simp; try with_reducible rfl)
       try simp only [Act.put, List.setIfInBounds_toArray, List.set_cons_zero, List.set_cons_succ, List.getElem_toArray, List.getElem_cons_succ, List.getElem_cons_zero]))
  refine wpC_step rfl (by rfl) (fun K hK => ?_)
  go_simp
  refine hK _ _ trivial ?_
  clear hK K
  try simp only [Act.put, List.setIfInBounds_toArray, List.set_cons_zero, List.set_cons_succ, List.getElem_toArray, List.getElem_cons_succ, List.getElem_cons_zero]
  refine wpC_nil ?_
  go_wp2_with fail
  have hkw := hk1.then hk2
  have hB := hk2.heap hB2 (by simp)
  refine ret_row2 rfl w.heap.size _ _ _ _ rfl (drew_block (set4_block (set01_block hB _ _) _ _ _ _)) Tryd.underlying34 rfl (by kernel_rfl) rfl ?_
  have e1 : ((at_ + k : Nat) : Int) = (at_ : Int) + k := by omega
  have e2 : decide (k ≤ 32) = decide ((k : Int) ≤ 32) := decide_eq_decide.2 (by omega)
  have ho := HO.out
  rw [e1, e2] at ho
  exact ⟨⟨1, _, 0, at_, (at_ : Int) + k, decide ((k : Int) ≤ 32), rfl, fun _ => ho⟩, (Keeps.set4 ((hkw.setCell (.inr (Nat.le_refl _)) _).setCell (.inr (Nat.le_refl _)) _) (Nat.le_refl _) _ _ _ _).drew⟩

end Go.Proofs.YtfoeadiejcheiaaDoor
