/- Contract of strings.IndexAny at a quote and a line feed, any bytes. Conditions: those of each theorem. -/
import Derived.Test.YtfoeadiejcheiaaDoorTokK
import Derived.Laws.RangeString
import Derived.Lib.IndexAny
namespace Go.Proofs.YtfoeadiejcheiaaDoor
open Go.RowKit

theorem get_bang (s : ByteArray) (i : Nat) (h : i < s.size) : s.get! i = s[i] := by
  simp [ByteArray.get!, getElem!_pos, h]
  rfl

/-- What a rune that begins with no ASCII byte is: none of ASCII, and its other bytes are none. -/
theorem decode_high (s : ByteArray) (i : Nat) (h : i < s.size) (hi : 128 ≤ s[i].toNat) :
    128 ≤ (Utf8.decode s i).1 ∧ (Utf8.decode s i).1 ≤ 1114111 ∧ 1 ≤ (Utf8.decode s i).2 ∧ i + (Utf8.decode s i).2 ≤ s.size ∧ ∀ j (hj : j < s.size), i ≤ j → j < i + (Utf8.decode s i).2 → 128 ≤ s[j].toNat := by
  have h0 : (s.get! (i + 0)).toNat = s[i].toNat := by rw [Nat.add_zero, get_bang s i h]
  have hc : ∀ k, (decide (i + k < s.size) && (s.get! (i + k)).toNat / 64 == 2) = true → ∃ hk : i + k < s.size, 128 ≤ s[i + k].toNat := by
    intro k hk
    simp only [Bool.and_eq_true, decide_eq_true_eq, beq_iff_eq] at hk
    obtain ⟨h1, h2⟩ := hk
    rw [get_bang s _ h1] at h2
    exact ⟨h1, by omega⟩
  have one : ∀ j (hj : j < s.size), i ≤ j → j < i + 1 → 128 ≤ s[j].toNat := by
    intro j hj h1 h2
    have : j = i := by omega
    subst this
    exact hi
  have fin1 : 128 ≤ Utf8.runeError ∧ Utf8.runeError ≤ 1114111 ∧ 1 ≤ 1 ∧ i + 1 ≤ s.size ∧ ∀ j (hj : j < s.size), i ≤ j → j < i + 1 → 128 ≤ s[j].toNat := ⟨by decide, by decide, by omega, by omega, one⟩
  unfold Utf8.decode
  simp only [h0]
  rw [if_neg (by omega)]
  split
  · rename_i hx
    simp only [Bool.and_eq_true] at hx
    obtain ⟨k1, k2⟩ := hc 1 (by simpa using hx.2)
    split
    · refine ⟨by omega, by omega, by omega, by omega, fun j hj h1 h2 => ?_⟩
      have : j = i ∨ j = i + 1 := by omega
      rcases this with rfl | rfl
      · exact hi
      · exact k2
    · exact fin1
  · split
    · rename_i hx
      simp only [Bool.and_eq_true] at hx
      obtain ⟨k1, k2⟩ := hc 1 (by simpa using hx.1.2)
      obtain ⟨k3, k4⟩ := hc 2 (by simpa using hx.2)
      split
      · rename_i hv
        simp only [Bool.and_eq_true, decide_eq_true_eq] at hv
        refine ⟨by omega, by omega, by omega, by omega, fun j hj h1 h2 => ?_⟩
        have : j = i ∨ j = i + 1 ∨ j = i + 2 := by omega
        rcases this with rfl | rfl | rfl
        · exact hi
        · exact k2
        · exact k4
      · exact fin1
    · split
      · rename_i hx
        simp only [Bool.and_eq_true] at hx
        obtain ⟨k1, k2⟩ := hc 1 (by simpa using hx.1.1.2)
        obtain ⟨k3, k4⟩ := hc 2 (by simpa using hx.1.2)
        obtain ⟨k5, k6⟩ := hc 3 (by simpa using hx.2)
        split
        · rename_i hv
          simp only [Bool.and_eq_true, decide_eq_true_eq] at hv
          refine ⟨by omega, ?_, by omega, by omega, fun j hj h1 h2 => ?_⟩
          · have hv2 := hv.2
            simp only [Utf8.valid, Bool.or_eq_true, Bool.and_eq_true, decide_eq_true_eq] at hv2
            omega
          · have : j = i ∨ j = i + 1 ∨ j = i + 2 ∨ j = i + 3 := by omega
            rcases this with rfl | rfl | rfl | rfl
            · exact hi
            · exact k2
            · exact k4
            · exact k6
        · exact fin1
      · exact fin1

/-- The world behind a step of an iterator that lies in block B. -/
def stepped (w : World) (B : Nat) (s : ByteArray) (pos : Nat) : World := { w with heap := w.heap.setIfInBounds B (.stringIter s pos) }

theorem run_next_gen {P : Program} {w : World} {B : Nat} {s : ByteArray} {pos : Nat} (hb : w.heap[B]? = some (.stringIter s pos)) (ty : TypeId) (h : pos < s.size) :
    (Instr.next (.pointer (some ⟨B, 0, none⟩)) true ty).run P w = .ok (.tuple #[.bool true, .int .i64 pos, .int .i32 (Utf8.decode s pos).1]) (stepped w B s (pos + (Utf8.decode s pos).2)) := by
  simp [Instr.next, getObj, setObj, Sem.run, hb, h, goInt, stepped]

theorem run_next_fin {P : Program} {w : World} {B : Nat} {s : ByteArray} {pos : Nat} (hb : w.heap[B]? = some (.stringIter s pos)) (ty : TypeId) (h : ¬ pos < s.size) :
    (Instr.next (.pointer (some ⟨B, 0, none⟩)) true ty).run P w = .ok (.tuple #[.bool false]) w := by
  simp [Instr.next, getObj, Sem.run, hb, h]

theorem stepped_at {w : World} {B : Nat} {s : ByteArray} {pos : Nat} (h : B < w.heap.size) : (stepped w B s pos).heap[B]? = some (.stringIter s pos) := by
  simp [stepped, h]

theorem Keeps.stepped {S : List Nat} {a w : World} (h : Keeps S a w) {B : Nat} (hB : a.heap.size ≤ B) (s : ByteArray) (pos : Nat) : Keeps S a (stepped w B s pos) :=
  h.trans (S' := [B]) ⟨rfl, rfl, rfl, by simp [Go.Proofs.YtfoeadiejcheiaaDoor.stepped], fun k hk hn => by
    simp only [Go.Proofs.YtfoeadiejcheiaaDoor.stepped]
    rw [Array.getElem?_setIfInBounds_ne (by simpa using fun e => hn (by simp [e]))]⟩
    (by intro x hx hlt; simp at hx; subst hx; omega)

theorem encode_high {r : Int} (h0 : 128 ≤ r) (hv : Utf8.valid r = true) : 2 ≤ (Utf8.encode r).size ∧ (Utf8.encode r).size ≤ 4 ∧ ∀ j (hj : j < (Utf8.encode r).size), j = (Utf8.encode r).size - 1 → 128 ≤ ((Utf8.encode r)[j]).toNat := by
  have hlast : ∀ n : Nat, 128 ≤ (UInt8.ofNat (0x80 + n % 64)).toNat := by
    intro n
    rw [UInt8.toNat_ofNat']
    omega
  unfold Utf8.encode
  simp only [hv, if_true]
  have hn : ¬ r.toNat < 128 := by omega
  simp only [hn, if_false]
  split
  · refine ⟨(by omega : 2 ≤ 2), (by omega : 2 ≤ 4), fun j hj he => ?_⟩
    have : j = 1 := he
    subst this
    exact hlast _
  · split
    · refine ⟨(by omega : 2 ≤ 3), (by omega : 3 ≤ 4), fun j hj he => ?_⟩
      have : j = 2 := he
      subst this
      exact hlast _
    · refine ⟨(by omega : 2 ≤ 4), (by omega : 4 ≤ 4), fun j hj he => ?_⟩
      have : j = 3 := he
      subst this
      exact hlast _

set_option maxHeartbeats 4000000 in
set_option maxRecDepth 100000 in
theorem indexRune_high (cs : ByteArray) (hcs : cs.size = 2) (ha : ∀ j (hj : j < cs.size), cs[j].toNat < 128) (r : Int) (w : World) (h0 : 128 ≤ r) (h1 : r ≤ 1114111) :
    Calls Tryd.prog 39 #[.string cs, .int .i32 r] w fun e w' => e = .returned (.int .i64 (-1)) ∧ Keeps [] w w' := by
  have hk0 := Keeps.refl [] w
  have HV := fun w => Lib.hid (Tryd.utf8_ValidRune r w)
  have HA := Lib.hid ha
  clear ha
  go_enter Tryd.func39, Tryd.ntmps39
  have n0 := fun ty => run_next_ascii (P := Tryd.prog) w cs 0 ty (by omega) (HA.out 0 (by omega))
  have n1 := fun ty => run_next_ascii (P := Tryd.prog) w cs 1 ty (by omega) (HA.out 1 (by omega))
  have n2 := fun ty => run_next_end (P := Tryd.prog) w cs 2 ty (by omega)
  have N0 := Lib.hid n0
  have N1 := Lib.hid n1
  have N2 := Lib.hid n2
  clear n0 n1 n2
  go_wp2_with (go_at_call 56; refine (HV _).out.mono ?_; rintro e w' ⟨rfl, rfl⟩)
  · go_loopg [5, 6] 2 (fun g _ _ wx => ∃ p : Nat, p + g = 2 ∧ wx = w.iter cs p)
    case atStart => exact ⟨0, rfl, rfl⟩
    case round =>
      obtain ⟨p, hp, rfl⟩ := hrel
      cases gk with
      | zero =>
        have hp2 : p = 2 := by omega
        subst hp2
        have n2 := N2.out
        go_wp2_with fail
        go_returns
        exact ⟨rfl, hk0.alloc _⟩
      | succ g =>
        have hp2 : p = 0 ∨ p = 1 := by omega
        have n0 := N0.out
        have n1 := N1.out
        have q0 : 0 < cs.size := by omega
        have q1 : 1 < cs.size := by omega
        have e0 : (((cs[0]'q0).toNat : Int) == 65533) = false := by rw [beq_eq_false_iff_ne]; have := HA.out 0 q0; omega
        have e1 : (((cs[1]'q1).toNat : Int) == 65533) = false := by rw [beq_eq_false_iff_ne]; have := HA.out 1 q1; omega
        rcases hp2 with rfl | rfl
        · clear n1
          go_wp2_with fail
          go_roundg g
          case measure => omega
          case rel => exact ⟨1, by omega, rfl⟩
        · clear n0
          go_wp2_with fail
          go_roundg g
          case measure => omega
          case rel => exact ⟨2, by omega, rfl⟩
  · go_returns
    exact ⟨rfl, hk0⟩
  · rename_i hvr
    have hv : Utf8.valid r = true := by
      have h3 : Lib.validRune r = true := by simpa using hvr
      simp only [Lib.validRune, decide_eq_true_eq] at h3
      simp only [Utf8.valid, Bool.or_eq_true, Bool.and_eq_true, decide_eq_true_eq]
      omega
    obtain ⟨e2, e4, el⟩ := encode_high h0 hv
    refine wp_scope_straight ?_
    have hw : wrap64 (((Utf8.encode r).size : Int) - 1) = ((Utf8.encode r).size : Int) - 1 := IntWalk.wrap64_in _ ⟨by omega, by omega⟩
    go_wp2_with fail
    generalize Utf8.encode r = enc at *
    generalize hL : (enc.size : Int) - 1 = L at *
    have hL1 : 1 ≤ L := by omega
    have HE := Lib.hid el
    have HL := Lib.hid hL
    clear el hw hL e2 e4
    go_loopw [9] (fun i wr => i = .int .i64 L ∧ wr = w') (fun _ _ => 0)
    case atStart => exact ⟨rfl, rfl⟩
    case round =>
      obtain ⟨rfl, rfl⟩ := hrel
      by_cases h2 : L = 1
      · have hL := HL.out
        have i0 : 1 < enc.size := by omega
        have i1 : (1 : Int) < (enc.size : Int) := by omega
        have hl : 128 ≤ (enc[1]'i0).toNat := HE.out 1 i0 (by omega)
        have hc1 : 1 < cs.size := by omega
        have hne : (((cs[1]'hc1).toNat : Int) != ((enc[1]'i0).toNat : Int)) = true := by
          rw [bne_iff_ne]
          have := HA.out 1 hc1
          omega
        clear hL
        subst h2
        clear HE
        go_wp2_with fail
        refine wp_scope_straight ?_
        go_wp2_with fail
        repeat (go_quiet (fail); try go_wp2_with fail)
        have hw2 : IntKind.i64.wrap 2 = 2 := IntWalk.i64_in _ (by omega)
        refine wp_region_chain (fun _ => True) [7] [(0, 0), (1, 0), (2, 0), (3, 0), (4, 0), (5, 0), (6, 0), (7, 3), (8, 0)] (by kernel_rfl) (by kernel_rfl) (fun _ d _ _ _ h => by cases d <;> exact h) trivial ?_
        repeat (first
          | (refine wpC_pure (v := ?_) rfl (by rfl) ?_ ?_
             rotate_left 1
             · (intro w; go_simp; try with_reducible rfl)
             try simp only [Act.put, List.setIfInBounds_toArray, List.set_cons_zero, List.set_cons_succ, List.getElem_toArray, List.getElem_cons_succ, List.getElem_cons_zero]))
        refine wpC_last rfl (by rfl) (fun K hK => ?_)
        go_simp
        refine (indexByte_any _ _ _).mono ?_
        rintro e w' ⟨rfl, rfl⟩
        refine hK _ _ ?_
        clear hK K
        try simp only [Act.put, List.setIfInBounds_toArray, List.set_cons_zero, List.set_cons_succ, List.getElem_toArray, List.getElem_cons_succ, List.getElem_cons_zero]
        have hm : Lib.indexByte (ByteArray.empty).data.toList ((enc[1]'i0).toNat : Int).toNat.toUInt8 = -1 := rfl
        repeat (first
          | (refine wpC_pure (v := ?_) rfl (by rfl) ?_ ?_
             rotate_left 1
             · (intro w; go_simp; try with_reducible rfl)
             try simp only [Act.put, List.setIfInBounds_toArray, List.set_cons_zero, List.set_cons_succ, List.getElem_toArray, List.getElem_cons_succ, List.getElem_cons_zero]))
        refine wpC_nil ?_
        go_wp2_with fail
        simp +zetaDelta only [Exit.noGoto_ret, Exit.inBlock, Exit.then]
        go_returns
        exact ⟨rfl, (hk0.drewN _).drew⟩
      · have d1 : decide (L < 2) = false := by simp; omega
        go_wp2_with fail
        rw [Exit.noGoto_ret]
        go_returns
        exact ⟨rfl, hk0⟩

end Go.Proofs.YtfoeadiejcheiaaDoor
