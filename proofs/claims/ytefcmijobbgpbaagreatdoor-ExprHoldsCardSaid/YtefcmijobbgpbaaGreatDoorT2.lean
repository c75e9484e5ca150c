/- T2: contracts and plain laws of tokens, carried over from another seat. Conditions: those of each theorem. -/
import Derived.Test.YtefcmijobbgpbaaGreatDoorT1
import Derived.Laws.RangeString
import Derived.Lib.IndexAny

set_option maxRecDepth 100000

namespace Go.Proofs.YtefcmijobbgpbaaGreatDoor
open Go.RowKit

theorem get_bang (s : ByteArray) (i : Nat) (h : i < s.size) : s.get! i = s[i] := by
  simp [ByteArray.get!, getElem!_pos, h]
  rfl

/-- What a rune that begins with no ASCII byte is: none of ASCII, and its other bytes are none. -/
theorem decode_high (s : ByteArray) (i : Nat) (h : i < s.size) (hi : 128 ≤ s[i].toNat) :
    128 ≤ (Utf8.decode s i).1 ∧ (Utf8.decode s i).1 ≤ 1114111 ∧ 1 ≤ (Utf8.decode s i).2 ∧ i + (Utf8.decode s i).2 ≤ s.size ∧ ∀ j (hj : j < s.size), i ≤ j → j < i + (Utf8.decode s i).2 → 128 ≤ s[j].toNat := by
  have h0 : (s.get! (i + 0)).toNat = s[i].toNat := by rw [Nat.add_zero, get_bang s i h]
  have hc : ∀ k, (decide (i + k < s.size) && (s.get! (i + k)).toNat / 64 == 2) = true → ∃ hk : i + k < s.size, 128 ≤ s[i + k].toNat := by
    intro k hk
    simp only [Bool.and_eq_true, decide_eq_true_eq, beq_iff_eq] at hk
    obtain ⟨h1, h2⟩ := hk
    rw [get_bang s _ h1] at h2
    exact ⟨h1, by omega⟩
  have one : ∀ j (hj : j < s.size), i ≤ j → j < i + 1 → 128 ≤ s[j].toNat := by
    intro j hj h1 h2
    have : j = i := by omega
    subst this
    exact hi
  have fin1 : 128 ≤ Utf8.runeError ∧ Utf8.runeError ≤ 1114111 ∧ 1 ≤ 1 ∧ i + 1 ≤ s.size ∧ ∀ j (hj : j < s.size), i ≤ j → j < i + 1 → 128 ≤ s[j].toNat := ⟨by decide, by decide, by omega, by omega, one⟩
  unfold Utf8.decode
  simp only [h0]
  rw [if_neg (by omega)]
  split
  · rename_i hx
    simp only [Bool.and_eq_true] at hx
    obtain ⟨k1, k2⟩ := hc 1 (by simpa using hx.2)
    split
    · refine ⟨by omega, by omega, by omega, by omega, fun j hj h1 h2 => ?_⟩
      have : j = i ∨ j = i + 1 := by omega
      rcases this with rfl | rfl
      · exact hi
      · exact k2
    · exact fin1
  · split
    · rename_i hx
      simp only [Bool.and_eq_true] at hx
      obtain ⟨k1, k2⟩ := hc 1 (by simpa using hx.1.2)
      obtain ⟨k3, k4⟩ := hc 2 (by simpa using hx.2)
      split
      · rename_i hv
        simp only [Bool.and_eq_true, decide_eq_true_eq] at hv
        refine ⟨by omega, by omega, by omega, by omega, fun j hj h1 h2 => ?_⟩
        have : j = i ∨ j = i + 1 ∨ j = i + 2 := by omega
        rcases this with rfl | rfl | rfl
        · exact hi
        · exact k2
        · exact k4
      · exact fin1
    · split
      · rename_i hx
        simp only [Bool.and_eq_true] at hx
        obtain ⟨k1, k2⟩ := hc 1 (by simpa using hx.1.1.2)
        obtain ⟨k3, k4⟩ := hc 2 (by simpa using hx.1.2)
        obtain ⟨k5, k6⟩ := hc 3 (by simpa using hx.2)
        split
        · rename_i hv
          simp only [Bool.and_eq_true, decide_eq_true_eq] at hv
          refine ⟨by omega, ?_, by omega, by omega, fun j hj h1 h2 => ?_⟩
          · have hv2 := hv.2
            simp only [Utf8.valid, Bool.or_eq_true, Bool.and_eq_true, decide_eq_true_eq] at hv2
            omega
          · have : j = i ∨ j = i + 1 ∨ j = i + 2 ∨ j = i + 3 := by omega
            rcases this with rfl | rfl | rfl | rfl
            · exact hi
            · exact k2
            · exact k4
            · exact k6
        · exact fin1
      · exact fin1

/-- The world behind a step of an iterator that lies in block B. -/
def stepped (w : World) (B : Nat) (s : ByteArray) (pos : Nat) : World := { w with heap := w.heap.setIfInBounds B (.stringIter s pos) }

theorem run_next_gen {P : Program} {w : World} {B : Nat} {s : ByteArray} {pos : Nat} (hb : w.heap[B]? = some (.stringIter s pos)) (ty : TypeId) (h : pos < s.size) :
    (Instr.next (.pointer (some ⟨B, 0, none⟩)) true ty).run P w = .ok (.tuple #[.bool true, .int .i64 pos, .int .i32 (Utf8.decode s pos).1]) (stepped w B s (pos + (Utf8.decode s pos).2)) := by
  simp [Instr.next, getObj, setObj, Sem.run, hb, h, goInt, stepped]

theorem run_next_fin {P : Program} {w : World} {B : Nat} {s : ByteArray} {pos : Nat} (hb : w.heap[B]? = some (.stringIter s pos)) (ty : TypeId) (h : ¬ pos < s.size) :
    (Instr.next (.pointer (some ⟨B, 0, none⟩)) true ty).run P w = .ok (.tuple #[.bool false]) w := by
  simp [Instr.next, getObj, Sem.run, hb, h]

theorem stepped_at {w : World} {B : Nat} {s : ByteArray} {pos : Nat} (h : B < w.heap.size) : (stepped w B s pos).heap[B]? = some (.stringIter s pos) := by
  simp [stepped, h]

theorem Keeps.stepped {S : List Nat} {a w : World} (h : Keeps S a w) {B : Nat} (hB : a.heap.size ≤ B) (s : ByteArray) (pos : Nat) : Keeps S a (stepped w B s pos) :=
  h.trans (S' := [B]) ⟨rfl, rfl, rfl, by simp [Go.Proofs.YtefcmijobbgpbaaGreatDoor.stepped], fun k hk hn => by
    simp only [Go.Proofs.YtefcmijobbgpbaaGreatDoor.stepped]
    rw [Array.getElem?_setIfInBounds_ne (by simpa using fun e => hn (by simp [e]))]⟩
    (by intro x hx hlt; simp at hx; subst hx; omega)

theorem encode_high {r : Int} (h0 : 128 ≤ r) (hv : Utf8.valid r = true) : 2 ≤ (Utf8.encode r).size ∧ (Utf8.encode r).size ≤ 4 ∧ ∀ j (hj : j < (Utf8.encode r).size), j = (Utf8.encode r).size - 1 → 128 ≤ ((Utf8.encode r)[j]).toNat := by
  have hlast : ∀ n : Nat, 128 ≤ (UInt8.ofNat (0x80 + n % 64)).toNat := by
    intro n
    rw [UInt8.toNat_ofNat']
    omega
  unfold Utf8.encode
  simp only [hv, if_true]
  have hn : ¬ r.toNat < 128 := by omega
  simp only [hn, if_false]
  split
  · refine ⟨(by omega : 2 ≤ 2), (by omega : 2 ≤ 4), fun j hj he => ?_⟩
    have : j = 1 := he
    subst this
    exact hlast _
  · split
    · refine ⟨(by omega : 2 ≤ 3), (by omega : 3 ≤ 4), fun j hj he => ?_⟩
      have : j = 2 := he
      subst this
      exact hlast _
    · refine ⟨(by omega : 2 ≤ 4), (by omega : 4 ≤ 4), fun j hj he => ?_⟩
      have : j = 3 := he
      subst this
      exact hlast _

set_option maxHeartbeats 4000000 in
set_option maxRecDepth 100000 in
theorem indexRune_high (cs : ByteArray) (hcs : cs.size = 2) (ha : ∀ j (hj : j < cs.size), cs[j].toNat < 128) (r : Int) (w : World) (h0 : 128 ≤ r) (h1 : r ≤ 1114111) :
    Calls Tryz.prog 102 #[.string cs, .int .i32 r] w fun e w' => e = .returned (.int .i64 (-1)) ∧ Keeps [] w w' := by
  have hk0 := Keeps.refl [] w
  have HV := fun w => Lib.hid (Tryz.utf8_ValidRune r w)
  have HA := Lib.hid ha
  clear ha
  go_enter Tryz.func102, Tryz.ntmps102
  have n0 := fun ty => run_next_ascii (P := Tryz.prog) w cs 0 ty (by omega) (HA.out 0 (by omega))
  have n1 := fun ty => run_next_ascii (P := Tryz.prog) w cs 1 ty (by omega) (HA.out 1 (by omega))
  have n2 := fun ty => run_next_end (P := Tryz.prog) w cs 2 ty (by omega)
  have N0 := Lib.hid n0
  have N1 := Lib.hid n1
  have N2 := Lib.hid n2
  clear n0 n1 n2
  go_wp2_with (go_at_call 126; refine (HV _).out.mono ?_; rintro e w' ⟨rfl, rfl⟩)
  · go_loopg [5, 6] 2 (fun g _ _ wx => ∃ p : Nat, p + g = 2 ∧ wx = w.iter cs p)
    case atStart => exact ⟨0, rfl, rfl⟩
    case round =>
      obtain ⟨p, hp, rfl⟩ := hrel
      cases gk with
      | zero =>
        have hp2 : p = 2 := by omega
        subst hp2
        have n2 := N2.out
        go_wp2_with fail
        go_returns
        exact ⟨rfl, hk0.alloc _⟩
      | succ g =>
        have hp2 : p = 0 ∨ p = 1 := by omega
        have n0 := N0.out
        have n1 := N1.out
        have q0 : 0 < cs.size := by omega
        have q1 : 1 < cs.size := by omega
        have e0 : (((cs[0]'q0).toNat : Int) == 65533) = false := by rw [beq_eq_false_iff_ne]; have := HA.out 0 q0; omega
        have e1 : (((cs[1]'q1).toNat : Int) == 65533) = false := by rw [beq_eq_false_iff_ne]; have := HA.out 1 q1; omega
        rcases hp2 with rfl | rfl
        · clear n1
          go_wp2_with fail
          go_roundg g
          case measure => omega
          case rel => exact ⟨1, by omega, rfl⟩
        · clear n0
          go_wp2_with fail
          go_roundg g
          case measure => omega
          case rel => exact ⟨2, by omega, rfl⟩
  · go_returns
    exact ⟨rfl, hk0⟩
  · rename_i hvr
    have hv : Utf8.valid r = true := by
      have h3 : Lib.validRune r = true := by simpa using hvr
      simp only [Lib.validRune, decide_eq_true_eq] at h3
      simp only [Utf8.valid, Bool.or_eq_true, Bool.and_eq_true, decide_eq_true_eq]
      omega
    obtain ⟨e2, e4, el⟩ := encode_high h0 hv
    refine wp_scope_straight ?_
    have hw : wrap64 (((Utf8.encode r).size : Int) - 1) = ((Utf8.encode r).size : Int) - 1 := IntWalk.wrap64_in _ ⟨by omega, by omega⟩
    go_wp2_with fail
    generalize Utf8.encode r = enc at *
    generalize hL : (enc.size : Int) - 1 = L at *
    have hL1 : 1 ≤ L := by omega
    have HE := Lib.hid el
    have HL := Lib.hid hL
    clear el hw hL e2 e4
    go_loopw [9] (fun i wr => i = .int .i64 L ∧ wr = w') (fun _ _ => 0)
    case atStart => exact ⟨rfl, rfl⟩
    case round =>
      obtain ⟨rfl, rfl⟩ := hrel
      by_cases h2 : L = 1
      · have hL := HL.out
        have i0 : 1 < enc.size := by omega
        have i1 : (1 : Int) < (enc.size : Int) := by omega
        have hl : 128 ≤ (enc[1]'i0).toNat := HE.out 1 i0 (by omega)
        have hc1 : 1 < cs.size := by omega
        have hne : (((cs[1]'hc1).toNat : Int) != ((enc[1]'i0).toNat : Int)) = true := by
          rw [bne_iff_ne]
          have := HA.out 1 hc1
          omega
        clear hL
        subst h2
        clear HE
        go_wp2_with fail
        refine wp_scope_straight ?_
        go_wp2_with fail
        repeat (go_quiet (fail); try go_wp2_with fail)
        have hw2 : IntKind.i64.wrap 2 = 2 := IntWalk.i64_in _ (by omega)
        refine wp_region_chain (fun _ => True) [7] [(0, 0), (1, 0), (2, 0), (3, 0), (4, 0), (5, 0), (6, 0), (7, 3), (8, 0)] (by kernel_rfl) (by kernel_rfl) (fun _ d _ _ _ h => by cases d <;> exact h) trivial ?_
        repeat (first
          | (refine wpC_pure (v := ?_) rfl (by rfl) ?_ ?_
             rotate_left 1
             · (intro w; go_simp; try with_reducible rfl)
             try simp only [Act.put, List.setIfInBounds_toArray, List.set_cons_zero, List.set_cons_succ, List.getElem_toArray, List.getElem_cons_succ, List.getElem_cons_zero]))
        refine wpC_last rfl (by rfl) (fun K hK => ?_)
        go_simp
        refine (indexByte_any _ _ _).mono ?_
        rintro e w' ⟨rfl, rfl⟩
        refine hK _ _ ?_
        clear hK K
        try simp only [Act.put, List.setIfInBounds_toArray, List.set_cons_zero, List.set_cons_succ, List.getElem_toArray, List.getElem_cons_succ, List.getElem_cons_zero]
        have hm : Lib.indexByte (ByteArray.empty).data.toList ((enc[1]'i0).toNat : Int).toNat.toUInt8 = -1 := rfl
        repeat (first
          | (refine wpC_pure (v := ?_) rfl (by rfl) ?_ ?_
             rotate_left 1
             · (intro w; go_simp; try with_reducible rfl)
             try simp only [Act.put, List.setIfInBounds_toArray, List.set_cons_zero, List.set_cons_succ, List.getElem_toArray, List.getElem_cons_succ, List.getElem_cons_zero]))
        refine wpC_nil ?_
        go_wp2_with fail
        simp +zetaDelta only [Exit.noGoto_ret, Exit.inBlock, Exit.then]
        go_returns
        exact ⟨rfl, (hk0.drewN _).drew⟩
      · have d1 : decide (L < 2) = false := by simp; omega
        go_wp2_with fail
        rw [Exit.noGoto_ret]
        go_returns
        exact ⟨rfl, hk0⟩

end Go.Proofs.YtefcmijobbgpbaaGreatDoor

namespace Go.Proofs.YtefcmijobbgpbaaGreatDoor
open Go.RowKit

/-- The place of the first quote or line feed; -1: there is none. -/
def quoteAt (s : ByteArray) : Int := if spanN inText s.data.toList < s.size then (spanN inText s.data.toList : Int) else -1

theorem quoteAt_hit {s : ByteArray} {i : Nat} (hi : i < s.size) (hn : spanN inText s.data.toList = i + spanN inText (s.data.toList.drop i)) (h : inText s[i] = false) : quoteAt s = i := by
  have hsp := span_at (p := inText) (l := s.data.toList) (j := i) hi
  have hjc : s.data.toList[i] = s[i] := rfl
  rw [hjc, h, if_neg (by simp)] at hsp
  unfold quoteAt
  rw [hn, hsp, Nat.add_zero, if_pos hi]

theorem quoteAt_none {s : ByteArray} {i : Nat} (hi : s.size ≤ i) (hn : spanN inText s.data.toList = i + spanN inText (s.data.toList.drop i)) : quoteAt s = -1 := by
  unfold quoteAt
  rw [if_neg (by omega)]

theorem span_skip {s : ByteArray} {k : Nat} : ∀ (n i : Nat), k = i + n → k ≤ s.size → (∀ j (hj : j < s.size), i ≤ j → j < k → inText s[j] = true) → i + spanN inText (s.data.toList.drop i) = k + spanN inText (s.data.toList.drop k)
  | 0, i, hk, _, _ => by subst hk; rfl
  | n + 1, i, hk, hs, h => by
    have hsp := span_at (p := inText) (l := s.data.toList) (j := i) (show i < s.data.toList.length by have : s.data.toList.length = s.size := rfl; omega)
    have hjc : ∀ h : i < s.size, s.data.toList[i]'h = s[i] := fun _ => rfl
    rw [hjc (by omega), h i (by omega) (Nat.le_refl _) (by omega), if_pos rfl] at hsp
    have ih := span_skip (s := s) (k := k) n (i + 1) (by omega) hs (fun j hj h1 h2 => h j hj (by omega) h2)
    omega

theorem inText_high {c : UInt8} (h : 128 ≤ c.toNat) : inText c = true := by
  simp only [inText, Bool.not_eq_true', Bool.or_eq_false_iff, beq_eq_false_iff_ne]
  exact ⟨fun e => by rw [e] at h; exact absurd h (by decide), fun e => by rw [e] at h; exact absurd h (by decide)⟩

def quotes : ByteArray := ⟨#[39, 10]⟩

theorem quotes_byte (c : UInt8) : decide (0 ≤ Lib.indexByte quotes.data.toList c) = !inText c := by
  have := all_bytes (p := fun c => decide (0 ≤ Lib.indexByte quotes.data.toList c) == !inText c) (by decide +kernel) c
  simpa using this

set_option maxHeartbeats 4000000 in
set_option maxRecDepth 1000000 in
theorem indexAny_short (s cs : ByteArray) (hcs : cs = quotes) (w : World) (h8 : s.size ≤ 8) :
    Calls Tryz.prog 84 #[.string s, .string cs] w fun e w' => e = .returned (.int .i64 (quoteAt s)) ∧ Keeps [] w w' := by
  have hk0 := Keeps.refl [] w
  have hc2 : cs.size = 2 := by rw [hcs]; rfl
  have hemp : cs.toList.isEmpty = false := not_empty (by omega)
  have hasc : ∀ j (hj : j < cs.size), cs[j].toNat < 128 := by
    subst hcs
    intro j hj
    have : ∀ j : Fin 2, (quotes[j.val]'(by exact j.isLt)).toNat < 128 := by decide
    exact this ⟨j, hj⟩
  have HC := Lib.hid hcs
  have HR := fun (r : Int) w (h0 : 128 ≤ r) (h1 : r ≤ 1114111) => Lib.hid (indexRune_high cs hc2 hasc r w h0 h1)
  have HA := fun (r : Int) w (h0 : 0 ≤ r) (h1 : r < 128) => Lib.hid (Tryz.strings_IndexRune_ascii cs r w h0 h1)
  have HU := fun w => Tryz.strings_shouldUseASCIISet (s.size : Int) w
  have h8z : decide ((8 : Int) < (s.size : Int)) = false := decide_eq_false (by omega)
  rw [h8z] at HU
  have HU := fun w => Lib.hid (HU w)
  clear hcs hasc
  go_enter Tryz.func84, Tryz.ntmps84
  go_wp2_with (go_at_call 103; refine (HU _).out.mono ?_; rintro e w' ⟨rfl, rfl⟩)
  go_loopg [9, 10] s.size (fun g _ _ wx => ∃ i : Nat, i + g = s.size ∧ Hid (wx.heap[w'.heap.size]? = some (.stringIter s i) ∧ spanN inText s.data.toList = i + spanN inText (s.data.toList.drop i)) ∧ Keeps [] w' wx)
  case atStart => exact ⟨0, by omega, Lib.hid ⟨World.iter_heap _ _ _, by simp⟩, hk0.alloc _⟩
  case round =>
    obtain ⟨i, hig, hh, hk⟩ := hrel
    obtain ⟨hb, hn⟩ := hh.out
    clear hh
    have hB := heap_lt hb
    cases gk with
    | zero =>
      have hnx := fun ty => run_next_fin (P := Tryz.prog) hb ty (by omega)
      have HQ := Lib.hid (quoteAt_none (i := i) (by omega) hn)
      clear hb hn
      go_wp2_with fail
      go_returns
      exact ⟨by rw [HQ.out]; rfl, hk⟩
    | succ g =>
      have hi : i < s.size := by omega
      have hnx := fun ty => run_next_gen (P := Tryz.prog) hb ty hi
      by_cases h128 : s[i].toNat < 128
      · rw [decode_ascii s i hi h128] at hnx
        have HQ := Lib.hid (quoteAt_hit hi hn)
        have HS : Hid (inText s[i] = true → spanN inText s.data.toList = i + 1 + spanN inText (s.data.toList.drop (i + 1))) := Lib.hid fun h => by
          have hone : ∀ j (hj : j < s.size), i ≤ j → j < i + 1 → inText s[j] = true := by
            intro j hj h1 h2
            have e : j = i := by omega
            subst e
            exact h
          rw [hn, span_skip (k := i + 1) 1 i rfl (by omega) hone]
        have hI := HA (s[i].toNat : Int) (stepped wr w'.heap.size s (i + 1)) (by omega) (by omega)
        have hqb : decide (0 ≤ Lib.indexByte cs.data.toList s[i]) = !inText s[i] := by rw [HC.out]; exact quotes_byte _
        have hback : ((s[i].toNat : Int)).toNat.toUInt8 = s[i] := by simp
        rw [hback] at hI
        have hst := Lib.hid (stepped_at (s := s) (pos := i + 1) hB)
        have hks := hk.stepped (Nat.le_refl w'.heap.size) s (i + 1)
        clear hb hn hback
        generalize Lib.indexByte cs.data.toList s[i] = r at hI hqb
        cases hin : inText s[i]
        · rw [hin] at hqb
          have hQ := HQ.out hin
          have HQ2 := Lib.hid hQ
          clear HQ HS hQ hin HA HR
          go_wp2_with (go_at_call 102; refine hI.out.mono ?_; rintro e w2 ⟨rfl, rfl⟩)
          go_returns
          exact ⟨by rw [HQ2.out]; rfl, hks⟩
        · rw [hin] at hqb
          have hQ := HS.out hin
          have HQ2 := Lib.hid hQ
          clear HQ HS hQ hin HA HR
          go_wp2_with (go_at_call 102; refine hI.out.mono ?_; rintro e w2 ⟨rfl, rfl⟩)
          go_roundg g
          case measure => omega
          case rel => exact ⟨i + 1, by omega, Lib.hid ⟨hst.out, HQ2.out⟩, hks⟩
      · obtain ⟨r0, r1, r2, r3, r4⟩ := decode_high s i hi (by omega)
        have hst := Lib.hid (stepped_at (s := s) (pos := i + (Utf8.decode s i).2) hB)
        have hks := hk.stepped (Nat.le_refl w'.heap.size) s (i + (Utf8.decode s i).2)
        have HN := Lib.hid (hn.trans (span_skip (k := i + (Utf8.decode s i).2) (Utf8.decode s i).2 i rfl r3 (fun j hj h1 h2 => inText_high (r4 j hj h1 h2))))
        have hI := HR ((Utf8.decode s i).1 : Int) (stepped wr w'.heap.size s (i + (Utf8.decode s i).2)) (by omega) (by omega)
        clear r4 hb hn HA HR
        generalize (Utf8.decode s i).1 = rr at *
        generalize (Utf8.decode s i).2 = kk at *
        have hm1 : decide ((0 : Int) ≤ -1) = false := rfl
        go_wp2_with (go_at_call 102; refine hI.out.mono ?_; rintro e w2 ⟨rfl, hk2⟩)
        go_roundg (s.size - (i + kk))
        case measure => omega
        case rel => exact ⟨i + kk, by omega, Lib.hid ⟨hk2.heap hst.out (by simp), HN.out⟩, hks.then hk2⟩

set_option maxHeartbeats 4000000 in
set_option maxRecDepth 1000000 in
theorem indexAny_long (s cs : ByteArray) (hcs : cs = quotes) (w : World) (h8 : 8 < s.size) (hs : s.size ≤ 4611686018427387904) :
    Calls Tryz.prog 84 #[.string s, .string cs] w fun e w' => e = .returned (.int .i64 (quoteAt s)) ∧ Keeps [] w w' := by
  have hk0 := Keeps.refl [] w
  have hc2 : cs.size = 2 := by rw [hcs]; rfl
  have hemp : cs.toList.isEmpty = false := not_empty (by omega)
  have hz := zero_of_info (P := Tryz.prog) (t := 163) (v := .agg (Array.replicate 256 (.bool false))) (n := 256) (by kernel_rfl)
  have hM := Tryz.strings_makeASCIISet hz.1 cs w (by omega) (by
    subst hcs
    intro j b hj
    have : ∀ b ∈ quotes.data.toList, b.toNat < 128 := by decide
    exact this b (List.mem_of_getElem? hj))
  obtain ⟨set, hset⟩ : ∃ set, set = Lib.setCells cs.data.toList := ⟨_, rfl⟩
  have hsc : (storeCells ⟨w.heap.size + 1, 0, none⟩ set.toList 0).run Tryz.prog ((w.alloc (.cells set 163)).alloc (.cells (Array.replicate 256 (.bool false)) 163)) = .ok () ((w.alloc (.cells set 163)).alloc (.cells set 163)) := by
    have := run_storeCells_new (P := Tryz.prog) (w.alloc (.cells set 163)) 163 (Array.replicate 256 (.bool false)) set (by rw [hset, Lib.setCells_size]; exact hz.2) (by rw [hset, Lib.setCells_size, Array.size_replicate]) (by rw [hset]; exact Lib.setCells_one _)
    simpa using this
  have hsz : set.size = 256 := by rw [hset, Lib.setCells_size]
  have hcell : ∀ x : UInt8, ((w.alloc (.cells set 163)).alloc (.cells set 163)).cell? ⟨w.heap.size + 1, x.toNat, none⟩ = some (.bool (!inText x)) := fun x => by
    rw [World.cell?_alloc_at _ _ _ _ (by simp), hset, Lib.setCells_at, hcs]
    have := all_bytes (p := fun c => quotes.data.toList.contains c == !inText c) (by decide +kernel) x
    rw [beq_iff_eq] at this
    rw [this]
  rw [← hset] at hM
  clear hset
  have HC := Lib.hid hcell
  have HM := Lib.hid hM
  have HU := fun w => Tryz.strings_shouldUseASCIISet (s.size : Int) w
  have h8z : decide ((8 : Int) < (s.size : Int)) = true := decide_eq_true (by omega)
  rw [h8z] at HU
  have HU2 := fun w => Lib.hid (HU w)
  clear hcs hcell hM HU
  have hsize := hz.2
  go_enter Tryz.func84, Tryz.ntmps84
  go_wp2_with (first
    | (go_at_call 103; refine (HU2 _).out.mono ?_; rintro e w' ⟨rfl, hw⟩; rw [hw])
    | (go_at_call 104; refine HM.out.mono ?_; rintro e w' ⟨rfl, hw⟩; rw [hw]))
  clear HM hsc hw
  generalize hW : ((w.alloc (.cells set 163)).alloc (.cells set 163)) = W at *
  have hkW : Keeps [] w W := hW ▸ (hk0.alloc _).alloc _
  clear hW
  go_loopg [8] s.size (fun g s8 wx => ∃ i : Nat, i + g = s.size ∧ s8 = .int .i64 i ∧ wx = W ∧ Hid (spanN inText s.data.toList = i + spanN inText (s.data.toList.drop i)))
  case atStart => exact ⟨0, by omega, rfl, rfl, Lib.hid (by simp)⟩
  case round =>
    obtain ⟨i, hig, rfl, rfl, hn⟩ := hrel
    cases gk with
    | zero =>
      have hie : i = s.size := by omega
      have HQ := Lib.hid (quoteAt_none (i := i) (by omega) hn.out)
      have hiz : ¬ ((i : Int) < (s.size : Int)) := by omega
      clear hn hie
      go_wp2_with fail
      go_returns
      exact ⟨by rw [HQ.out]; rfl, hkW⟩
    | succ g =>
      have hi : i < s.size := by omega
      have hiz : (i : Int) < (s.size : Int) := by omega
      have hcx := HC.out s[i]
      have HQ := Lib.hid (quoteAt_hit hi hn.out)
      have HS : Hid (inText s[i] = true → spanN inText s.data.toList = i + 1 + spanN inText (s.data.toList.drop (i + 1))) := Lib.hid fun h => by
        have hone : ∀ j (hj : j < s.size), i ≤ j → j < i + 1 → inText s[j] = true := by
          intro j hj h1 h2
          have e : j = i := by omega
          subst e
          exact h
        rw [hn.out, span_skip (k := i + 1) 1 i rfl (by omega) hone]
      clear hn
      cases hin : inText s[i] <;> rw [hin] at hcx
      · have hQ := HQ.out hin
        have HQ2 := Lib.hid hQ
        have HA := Lib.hid (Tryz.asciiSet_contains _ s[i] _ _ hcx)
        clear HQ HS hQ hin hcx
        go_wp2_with (go_at_call 105; refine HA.out.mono ?_; rintro e w' ⟨rfl, hw⟩; rw [hw])
        go_returns
        exact ⟨by rw [HQ2.out]; rfl, hkW⟩
      · have hQ := HS.out hin
        have HQ2 := Lib.hid hQ
        have HA := Lib.hid (Tryz.asciiSet_contains _ s[i] _ _ hcx)
        clear HQ HS hQ hin hcx
        go_wp2_with (go_at_call 105; refine HA.out.mono ?_; rintro e w' ⟨rfl, hw⟩; rw [hw])
        go_roundg g
        case measure => omega
        case rel => exact ⟨i + 1, by omega, by simp, rfl, HQ2⟩

theorem indexAny_quote (s : ByteArray) (w : World) (hs : s.size ≤ 4611686018427387904) :
    Calls Tryz.prog 84 #[.string s, .string ⟨#[39, 10]⟩] w fun e w' => e = .returned (.int .i64 (quoteAt s)) ∧ Keeps [] w w' := by
  rcases Nat.lt_or_ge 8 s.size with h | h
  · exact indexAny_long s _ rfl w h hs
  · exact indexAny_short s _ rfl w h

end Go.Proofs.YtefcmijobbgpbaaGreatDoor

namespace Go.Proofs.YtefcmijobbgpbaaGreatDoor
open Go.RowKit

/-- What a sentinel may hold. -/
def IsErr (v : Value) : Prop := v = .nilIface ∨ ∃ te pe, v = .iface te pe

set_option maxHeartbeats 1000000 in
theorem parse_fit (s : ByteArray) (w : World) (hne : 0 < s.size) (hd : ∀ c ∈ s.data.toList, isDigit c = true) (hs : s.size ≤ 281474976710656) (hle : numVal s.data.toList ≤ 9223372036854775807) :
    Calls Tryz.prog 83 #[.string s, .int .i64 10, .int .i64 63] w fun e w' => e = .returned (.tuple #[.int .u64 (numVal s.data.toList : Nat), .nilIface]) ∧ Keeps [] w w' := by
  have H0 := fun w => parseIn_any s w hne hd (by omega)
  unfold parseV at H0
  rw [if_pos hle] at H0
  have H := fun w => Lib.hid (H0 w)
  clear H0
  generalize numVal s.data.toList = n at *
  go_enter Tryz.func83, Tryz.ntmps83
  go_wp2_with (go_at_call 100; refine (H _).out.mono ?_; rintro e w' ⟨rfl, hk⟩)
  go_returns
  exact ⟨rfl, hk⟩

set_option maxHeartbeats 1000000 in
theorem parse_over (s : ByteArray) (w : World) (hne : 0 < s.size) (hd : ∀ c ∈ s.data.toList, isDigit c = true) (hs : s.size ≤ 281474976710656) (he : ∃ ev, w.cell? ⟨6, 0, none⟩ = some ev ∧ IsErr ev) (hle : ¬ numVal s.data.toList ≤ 9223372036854775807) :
    Calls Tryz.prog 83 #[.string s, .int .i64 10, .int .i64 63] w fun e w' => (∃ N : Nat, e = .returned (.tuple #[.int .u64 9223372036854775807, .iface 191 (.pointer (some ⟨N, 0, none⟩))])) ∧ Keeps [] w w' := by
  have H0 := fun w => parseIn_any s w hne hd (by omega)
  unfold parseV at H0
  rw [if_neg hle] at H0
  have H := fun w => Lib.hid (H0 w)
  clear H0
  obtain ⟨ev, hev, hi⟩ := he
  go_enter Tryz.func83, Tryz.ntmps83
  go_wp2_with (first
    | (go_at_call 100; refine (H _).out.mono ?_; rintro e w' ⟨rfl, hk⟩)
    | (go_at_call 101; refine (Tryz.strconv_toError_range _ s _ _ ev _ hs (hk.cell hev (by simp)) hi).mono ?_; rintro e w2 ⟨N, rfl, _, _, hb⟩))
  go_returns
  exact ⟨⟨N, rfl⟩, hk.then (Keeps.of_below hb)⟩

theorem drew_block {w : World} {B : Nat} {o : Obj} (h : w.heap[B]? = some o) : w.drew.heap[B]? = some o := h
theorem set01_block {w : World} {B : Nat} {a b c d : Value} {t : TypeId} (h : w.heap[B]? = some (.cells #[a, b, c, d] t)) (p q : Value) :
    ((w.setCell ⟨B, 0, none⟩ p).setCell ⟨B, 1, none⟩ q).heap[B]? = some (.cells #[p, q, c, d] t (0, 0)) := by
  rw [heap_set_self (heap_set_self h)]
  rfl
theorem set02_block {w : World} {B : Nat} {a b c d : Value} {t : TypeId} (h : w.heap[B]? = some (.cells #[a, b, c, d] t)) (p q : Value) :
    ((w.setCell ⟨B, 0, none⟩ p).setCell ⟨B, 2, none⟩ q).heap[B]? = some (.cells #[p, b, q, d] t (0, 0)) := by
  rw [heap_set_self (heap_set_self h)]
  rfl

/-- What lies there from the start: the table of classes, an error. -/
structure Glob (w : World) : Prop where
  tab : Tab w
  err : ∃ ev, w.cell? ⟨6, 0, none⟩ = some ev ∧ IsErr ev
  pow : ∃ t fr, w.heap[3]? = some (.cells (Lib.pow10Tab.map fun z => Value.int .u64 z).toArray t fr)

theorem run_alnum (s : ByteArray) (at_ B : Nat) (w : World) (hT : Tab w) (hat : at_ ≤ s.size) (hs : s.size ≤ 4611686018427387904) (hB : w.heap[B]? = some (.cells #[.int .u8 2, .int .u8 3] 5 (0, 0))) :
    Calls Tryz.prog 54 #[.string s, .int .i64 (at_ : Int), .slice (some ⟨B, 0, none⟩) 2 2] w fun e w' => e = .returned (.int .i64 ((at_ + spanN isAlnum (s.data.toList.drop at_) : Nat) : Int)) ∧ Keeps [] w w' := by
  have h := run_any s at_ _ ⟨#[2, 3]⟩ w hT (conv_bytes [2, 3] w B hB) hat hs
  rw [funext inCls_alnum] at h
  exact h
theorem run_digit (s : ByteArray) (at_ B : Nat) (w : World) (hT : Tab w) (hat : at_ ≤ s.size) (hs : s.size ≤ 4611686018427387904) (hB : w.heap[B]? = some (.cells #[.int .u8 3] 5 (0, 0))) :
    Calls Tryz.prog 54 #[.string s, .int .i64 (at_ : Int), .slice (some ⟨B, 0, none⟩) 1 1] w fun e w' => e = .returned (.int .i64 ((at_ + spanN isDigit (s.data.toList.drop at_) : Nat) : Int)) ∧ Keeps [] w w' := by
  have h := run_any s at_ _ ⟨#[3]⟩ w hT (conv_bytes [3] w B hB) hat hs
  rw [funext inCls_digit] at h
  exact h
theorem run_blank (s : ByteArray) (at_ B : Nat) (w : World) (hT : Tab w) (hat : at_ ≤ s.size) (hs : s.size ≤ 4611686018427387904) (hB : w.heap[B]? = some (.cells #[.int .u8 1] 5 (0, 0))) :
    Calls Tryz.prog 54 #[.string s, .int .i64 (at_ : Int), .slice (some ⟨B, 0, none⟩) 1 1] w fun e w' => e = .returned (.int .i64 ((at_ + spanN isBlank (s.data.toList.drop at_) : Nat) : Int)) ∧ Keeps [] w w' := by
  have h := run_any s at_ _ ⟨#[1]⟩ w hT (conv_bytes [1] w B hB) hat hs
  rw [funext inCls_blank] at h
  exact h

set_option maxHeartbeats 4000000 in
set_option maxRecDepth 100000 in
theorem one_letter (s : ByteArray) (at_ : Nat) (w : World) (hG : Glob w) (hat : at_ < s.size) (hs : s.size ≤ 281474976710656) (hl : isLetter s[at_] = true) :
    Calls Tryz.prog 55 #[.string s, .int .i64 (at_ : Int)] w fun e w' => OneOut s at_ True e ∧ Keeps [] w w' := by
  have hk0 := Keeps.refl [] w
  have b0 : (0 : Int) ≤ (at_ : Int) := by omega
  have b1 : (at_ : Int) < (s.size : Int) := by omega
  have HG := Lib.hid hG
  have HC := fun w h => Lib.hid (class_any s[at_] w h)
  have hcl : clsI s[at_] = 2 := by
    have := cls_letter s[at_]
    rw [hl, beq_iff_eq] at this
    exact this
  rw [hcl] at HC
  have HO := Lib.hid (oneIs_word hat hl)
  clear hG hcl hl
  go_enter Tryz.func55, Tryz.ntmps55
  go_wp2_with (first
    | (go_at_call 82; refine (HC _ (HG.out.tab.keep (hk0.alloc _) (by simp))).out.mono ?_; rintro e w' ⟨rfl, rfl⟩))
  have hk1 := (hk0.alloc (.cells #[.int .i64 0, .string (⟨#[]⟩ : ByteArray), .int .i64 0, .int .i64 at_] 91 (0, 0))).alloc (.cells #[.int .u8 2, .int .u8 3] 5 (0, 0))
  have hB0 := heap_alloc_new w (.cells #[.int .i64 0, .string (⟨#[]⟩ : ByteArray), .int .i64 0, .int .i64 at_] 91 (0, 0))
  have hB1 := heap_alloc2_new w (.cells #[.int .i64 0, .string (⟨#[]⟩ : ByteArray), .int .i64 0, .int .i64 at_] 91 (0, 0)) (.cells #[.int .u8 2, .int .u8 3] 5 (0, 0))
  generalize hW : ((w.alloc (.cells #[.int .i64 0, .string (⟨#[]⟩ : ByteArray), .int .i64 0, .int .i64 at_] 91 (0, 0))).alloc (.cells #[.int .u8 2, .int .u8 3] 5 (0, 0))) = W at *
  have hB2 : W.heap[w.heap.size]? = some (.cells #[.int .i64 0, .string (⟨#[]⟩ : ByteArray), .int .i64 0, .int .i64 at_] 91 (0, 0)) := by
    rw [← hW]
    exact (Keeps.alloc (Keeps.refl [] _) _).heap hB0 (by simp)
  clear hW hB0
  refine (run_alnum s at_ (w.heap.size + 1) W (HG.out.tab.keep hk1 (by simp)) (Nat.le_of_lt hat) (by omega) hB1).mono ?_
  rintro e w2 ⟨rfl, hk2⟩
  obtain ⟨c0, c1, c2, c3, z0, z1, z2, z3⟩ := tok_block (hk2.heap hB2 (by simp))
  have hsp := spanN_le isAlnum (s.data.toList.drop at_)
  have hsl : (s.data.toList.drop at_).length = s.size - at_ := by rw [List.length_drop]; rfl
  generalize spanN isAlnum (s.data.toList.drop at_) = k at *
  have q1 : (at_ : Int) ≤ (at_ : Int) + k := by omega
  have q2 : (at_ : Int) + k ≤ (s.size : Int) := by omega
  have q3 : IntKind.i64.wrap ((at_ : Int) + k - (at_ : Int)) = (k : Int) := (IntWalk.i64_in _ (by omega)).trans (by omega)
  clear hsp hsl
  go_wp2_with fail
  refine wp_region_chain (fun _ => True) [] [(0, 0), (1, 0), (2, 0), (3, 0), (4, 0), (5, 2), (6, 0), (7, 2)] (by kernel_rfl) (by kernel_rfl) (fun _ d _ _ _ h => by cases d <;> exact h) trivial ?_
  repeat (first
    | (refine wpC_pure (v := ?_) rfl (by rfl) ?_ ?_
       rotate_left 1
       · (intro w; go_simp; try with_reducible rfl)
       try simp only [Act.put, List.setIfInBounds_toArray, List.set_cons_zero, List.set_cons_succ, List.getElem_toArray, List.getElem_cons_succ, List.getElem_cons_zero]))
  refine wpC_step rfl (by rfl) (fun K hK => ?_)
  go_simp
  refine hK _ _ trivial ?_
  clear hK K
  try simp only [Act.put, List.setIfInBounds_toArray, List.set_cons_zero, List.set_cons_succ, List.getElem_toArray, List.getElem_cons_succ, List.getElem_cons_zero]
  repeat (first
    | (refine wpC_pure (v := ?_) rfl (by rfl) ?_ ?_
       rotate_left 1
       · (intro w; go_simp; try with_reducible rfl)
       try simp only [Act.put, List.setIfInBounds_toArray, List.set_cons_zero, List.set_cons_succ, List.getElem_toArray, List.getElem_cons_succ, List.getElem_cons_zero]))
  refine wpC_step rfl (by rfl) (fun K hK => ?_)
  go_simp
  refine hK _ _ trivial ?_
  clear hK K
  try simp only [Act.put, List.setIfInBounds_toArray, List.set_cons_zero, List.set_cons_succ, List.getElem_toArray, List.getElem_cons_succ, List.getElem_cons_zero]
  refine wpC_nil ?_
  go_wp2_with fail
  have hkw := hk1.then hk2
  have hB := hk2.heap hB2 (by simp)
  refine ret_row2 rfl w.heap.size _ _ _ _ rfl (drew_block (set4_block (set01_block hB _ _) _ _ _ _)) Tryz.underlying91 rfl (by kernel_rfl) rfl ?_
  have e1 : ((at_ + k : Nat) : Int) = (at_ : Int) + k := by omega
  have e2 : decide (k ≤ 32) = decide ((k : Int) ≤ 32) := decide_eq_decide.2 (by omega)
  have ho := HO.out
  rw [e1, e2] at ho
  exact ⟨⟨1, _, 0, at_, (at_ : Int) + k, decide ((k : Int) ≤ 32), rfl, fun _ => ho⟩, (Keeps.set4 ((hkw.setCell (.inr (Nat.le_refl _)) _).setCell (.inr (Nat.le_refl _)) _) (Nat.le_refl _) _ _ _ _).drew⟩

end Go.Proofs.YtefcmijobbgpbaaGreatDoor

namespace Go.Proofs.YtefcmijobbgpbaaGreatDoor
open Go.RowKit

/-- The digits that stand at a place. -/
def digitsAt (s : ByteArray) (at_ : Nat) : ByteArray := s.extract at_ (at_ + spanN isDigit (s.data.toList.drop at_))

theorem digitsAt_list (s : ByteArray) (at_ : Nat) : (digitsAt s at_).data.toList = (s.data.toList.drop at_).take (spanN isDigit (s.data.toList.drop at_)) := by
  unfold digitsAt
  rw [extract_list, Nat.add_sub_cancel_left]

theorem digitsAt_facts (s : ByteArray) (at_ : Nat) (hat : at_ < s.size) (hd : isDigit s[at_] = true) : 0 < (digitsAt s at_).size ∧ (digitsAt s at_).size ≤ s.size ∧ ∀ c ∈ (digitsAt s at_).data.toList, isDigit c = true := by
  have hl : (digitsAt s at_).size = (digitsAt s at_).data.toList.length := rfl
  have h1 := spanN_le isDigit (s.data.toList.drop at_)
  have h2 : (s.data.toList.drop at_).length = s.size - at_ := by rw [List.length_drop]; rfl
  have h3 : s.data.toList.drop at_ = s[at_] :: s.data.toList.drop (at_ + 1) := List.drop_eq_getElem_cons (by exact hat)
  refine ⟨?_, ?_, ?_⟩
  · rw [hl, digitsAt_list, List.length_take, h3, span_pos hd]
    simp
  · rw [hl, digitsAt_list, List.length_take]
    omega
  · rw [digitsAt_list]
    exact span_all _

set_option maxHeartbeats 4000000 in
set_option maxRecDepth 100000 in
theorem one_digit_fit (s : ByteArray) (at_ : Nat) (w : World) (hG : Glob w) (hat : at_ < s.size) (hs : s.size ≤ 281474976710656) (hl : isLetter s[at_] = false) (hd : isDigit s[at_] = true)
    (hfit : numVal ((s.data.toList.drop at_).take (spanN isDigit (s.data.toList.drop at_))) ≤ 9223372036854775807) :
    Calls Tryz.prog 55 #[.string s, .int .i64 (at_ : Int)] w fun e w' => OneOut s at_ True e ∧ Keeps [] w w' := by
  have hk0 := Keeps.refl [] w
  have b0 : (0 : Int) ≤ (at_ : Int) := by omega
  have b1 : (at_ : Int) < (s.size : Int) := by omega
  have HG := Lib.hid hG
  have HC := fun w h => Lib.hid (class_any s[at_] w h)
  have hcl : clsI s[at_] = 3 := by
    have := cls_digit s[at_]
    rw [hd, beq_iff_eq] at this
    exact this
  rw [hcl] at HC
  have HO := Lib.hid (oneIs_number hat hl hd (numVal ((s.data.toList.drop at_).take (spanN isDigit (s.data.toList.drop at_))) : Nat) (fun _ => rfl))
  obtain ⟨d1, d2, d3⟩ := digitsAt_facts s at_ hat hd
  have HP := fun w => parse_fit (digitsAt s at_) w d1 d3 (by omega) (by rw [digitsAt_list]; exact hfit)
  rw [digitsAt_list] at HP
  have HP2 := fun w => Lib.hid (HP w)
  have hdg : digitsAt s at_ = s.extract at_ (at_ + spanN isDigit (s.data.toList.drop at_)) := rfl
  clear hG hcl hl d1 d2 d3 HP hd
  go_enter Tryz.func55, Tryz.ntmps55
  go_wp2_with (first
    | (go_at_call 82; refine (HC _ (HG.out.tab.keep (hk0.alloc _) (by simp))).out.mono ?_; rintro e w' ⟨rfl, rfl⟩))
  have hk1 := (hk0.alloc (.cells #[.int .i64 0, .string (⟨#[]⟩ : ByteArray), .int .i64 0, .int .i64 at_] 91 (0, 0))).alloc (.cells #[.int .u8 3] 5 (0, 0))
  have hB0 := heap_alloc_new w (.cells #[.int .i64 0, .string (⟨#[]⟩ : ByteArray), .int .i64 0, .int .i64 at_] 91 (0, 0))
  have hB1 := heap_alloc2_new w (.cells #[.int .i64 0, .string (⟨#[]⟩ : ByteArray), .int .i64 0, .int .i64 at_] 91 (0, 0)) (.cells #[.int .u8 3] 5 (0, 0))
  generalize hW : ((w.alloc (.cells #[.int .i64 0, .string (⟨#[]⟩ : ByteArray), .int .i64 0, .int .i64 at_] 91 (0, 0))).alloc (.cells #[.int .u8 3] 5 (0, 0))) = W at *
  have hB2 : W.heap[w.heap.size]? = some (.cells #[.int .i64 0, .string (⟨#[]⟩ : ByteArray), .int .i64 0, .int .i64 at_] 91 (0, 0)) := by
    rw [← hW]
    exact (Keeps.alloc (Keeps.refl [] _) _).heap hB0 (by simp)
  clear hW hB0
  refine (run_digit s at_ (w.heap.size + 1) W (HG.out.tab.keep hk1 (by simp)) (Nat.le_of_lt hat) (by omega) hB1).mono ?_
  rintro e w2 ⟨rfl, hk2⟩
  have hsp := spanN_le isDigit (s.data.toList.drop at_)
  have hsl : (s.data.toList.drop at_).length = s.size - at_ := by rw [List.length_drop]; rfl
  generalize hnv : numVal ((s.data.toList.drop at_).take (spanN isDigit (s.data.toList.drop at_))) = nv at *
  clear hnv
  generalize spanN isDigit (s.data.toList.drop at_) = k at *
  rw [hdg] at HP2
  clear hdg
  have q1 : (at_ : Int) ≤ (at_ : Int) + k := by omega
  have q2 : (at_ : Int) + k ≤ (s.size : Int) := by omega
  have q3 : IntKind.i64.wrap ((at_ : Int) + 1) = (at_ : Int) + 1 := IntWalk.i64_in _ (by omega)
  clear hsp hsl
  go_wp2_with fail
  refine (HP2 _).out.mono ?_
  rintro e w3 ⟨rfl, hk3⟩
  have hB3 := hk3.heap (hk2.heap hB2 (by simp)) (by simp)
  have hkw := (hk1.then hk2).then hk3
  obtain ⟨c0, c1, c2, c3, z0, z1, z2, z3⟩ := tok_block hB3
  have hand : Go.bits .and .u64 (nv : Int) 9223372036854775807 = nv := by
    have h := bits_and_u64_nat nv 9223372036854775807 (by omega) (by omega)
    have h2 : nv &&& 9223372036854775807 = nv := by
      have := Nat.and_two_pow_sub_one_eq_mod nv 63
      rw [show 2 ^ 63 - 1 = 9223372036854775807 from rfl] at this
      rw [this]
      exact Nat.mod_eq_of_lt (by omega)
    rw [h2] at h
    exact h
  have wN : wrap64 (nv : Int) = (nv : Int) := IntWalk.wrap64_in _ ⟨by omega, by omega⟩
  generalize hnv : (nv : Int) = a at *
  go_wp2_with fail
  have hS := set02_block hB3 (.int .i64 2) (.int .i64 a)
  have hkw4 := (hkw.setCell (.inr (Nat.le_refl w.heap.size)) (p := ⟨w.heap.size, 0, none⟩) (.int .i64 2)).setCell (.inr (Nat.le_refl w.heap.size)) (p := ⟨w.heap.size, 2, none⟩) (.int .i64 a)
  generalize hW4 : ((w3.setCell ⟨w.heap.size, 0, none⟩ (.int .i64 2)).setCell ⟨w.heap.size, 2, none⟩ (.int .i64 a)) = W4 at *
  clear hW4 c0 c1 c2 c3 z0 z1 z2 z3
  obtain ⟨c0, c1, c2, c3, z0, z1, z2, z3⟩ := tok_block hS
  have HS4 := Lib.hid (And.intro c0 (And.intro c1 (And.intro c2 c3)))
  by_cases h48 : s[at_] = 48
  · have hc : ((s[at_].toNat : Int) != 48) = false := by rw [h48]; rfl
    refine wp_region_chain (fun W' => W'.cell? ⟨w.heap.size, 0, none⟩ = some (.int .i64 2) ∧ W'.cell? ⟨w.heap.size, 1, none⟩ = some (.string ⟨#[]⟩) ∧ W'.cell? ⟨w.heap.size, 2, none⟩ = some (.int .i64 a) ∧ W'.cell? ⟨w.heap.size, 3, none⟩ = some (.int .i64 at_)) [16] [(0, 1), (1, 0), (2, 0), (3, 0), (4, 0), (5, 0), (6, 0), (7, 0), (8, 0), (9, 0), (10, 0), (11, 0), (12, 0), (13, 0), (14, 0), (15, 0), (16, 3), (17, 0), (18, 0)] (by kernel_rfl) (by kernel_rfl) (fun _ d _ _ _ h => by cases d <;> exact h) HS4.out ?_
    repeat (first
      | (refine wpC_pure (v := ?_) rfl (by rfl) ?_ ?_
         rotate_left 1
         · (intro w; go_simp; try with_reducible rfl)
         try simp only [Act.put, List.setIfInBounds_toArray, List.set_cons_zero, List.set_cons_succ, List.getElem_toArray, List.getElem_cons_succ, List.getElem_cons_zero])
      | (refine wpC_held (v := ?_) rfl (by rfl) ?_ ?_
         rotate_left 1
         · (rintro w ⟨x0, x1, x2, x3⟩; go_simp; try with_reducible rfl)
         try simp only [Act.put, List.setIfInBounds_toArray, List.set_cons_zero, List.set_cons_succ, List.getElem_toArray, List.getElem_cons_zero])
      | (refine wpC_pass rfl (by rfl) (by decide) ?_
         try simp only [Act.put, List.setIfInBounds_toArray, List.set_cons_zero, List.set_cons_succ, List.getElem_toArray, List.getElem_cons_succ, List.getElem_cons_zero]))
    refine wpC_last rfl (by rfl) (fun K hK => ?_)
    go_simp
    refine hK _ _ ?_
    clear hK K
    try simp only [Act.put, List.setIfInBounds_toArray, List.set_cons_zero, List.set_cons_succ, List.getElem_toArray, List.getElem_cons_succ, List.getElem_cons_zero]
    repeat (first
      | (refine wpC_pure (v := ?_) rfl (by rfl) ?_ ?_
         rotate_left 1
         · (intro w; go_simp; try with_reducible rfl)
         try simp only [Act.put, List.setIfInBounds_toArray, List.set_cons_zero, List.set_cons_succ, List.getElem_toArray, List.getElem_cons_succ, List.getElem_cons_zero]))
    refine wpC_nil ?_
    go_wp2_with fail
    refine ret_row2 rfl w.heap.size _ _ _ _ rfl (set4_block (drew_block hS) _ _ _ _) Tryz.underlying91 rfl (by kernel_rfl) rfl ?_
    have ho := HO.out
    have e1 : ((at_ + k : Nat) : Int) = (at_ : Int) + k := by omega
    have e3 : (decide (nv ≤ 9223372036854775807) && (decide (s[at_] ≠ 48) || decide (k = 1))) = ((at_ : Int) + k == (at_ : Int) + 1) := by
      rw [Bool.eq_iff_iff]
      simp [hfit, h48]
      omega
    rw [e1, e3] at ho
    exact ⟨⟨2, _, a, at_, (at_ : Int) + k, ((at_ : Int) + k == (at_ : Int) + 1), rfl, fun _ => ho⟩, Keeps.set4 hkw4.drew (Nat.le_refl _) _ _ _ _⟩
  · have hc : ((s[at_].toNat : Int) != 48) = true := by
      rw [bne_iff_ne]
      intro e
      exact h48 (UInt8.toNat_inj.1 (by show s[at_].toNat = 48; omega))
    refine wp_region_chain (fun W' => W'.cell? ⟨w.heap.size, 0, none⟩ = some (.int .i64 2) ∧ W'.cell? ⟨w.heap.size, 1, none⟩ = some (.string ⟨#[]⟩) ∧ W'.cell? ⟨w.heap.size, 2, none⟩ = some (.int .i64 a) ∧ W'.cell? ⟨w.heap.size, 3, none⟩ = some (.int .i64 at_)) [16] [(0, 1), (1, 0), (2, 0), (3, 0), (4, 0), (5, 0), (6, 0), (7, 0), (8, 0), (9, 0), (10, 0), (11, 0), (12, 0), (13, 0), (14, 0), (15, 0), (16, 3), (17, 0), (18, 0)] (by kernel_rfl) (by kernel_rfl) (fun _ d _ _ _ h => by cases d <;> exact h) HS4.out ?_
    repeat (first
      | (refine wpC_pure (v := ?_) rfl (by rfl) ?_ ?_
         rotate_left 1
         · (intro w; go_simp; try with_reducible rfl)
         try simp only [Act.put, List.setIfInBounds_toArray, List.set_cons_zero, List.set_cons_succ, List.getElem_toArray, List.getElem_cons_succ, List.getElem_cons_zero])
      | (refine wpC_held (v := ?_) rfl (by rfl) ?_ ?_
         rotate_left 1
         · (rintro w ⟨x0, x1, x2, x3⟩; go_simp; try with_reducible rfl)
         try simp only [Act.put, List.setIfInBounds_toArray, List.set_cons_zero, List.set_cons_succ, List.getElem_toArray, List.getElem_cons_zero])
      | (refine wpC_pass rfl (by rfl) (by decide) ?_
         try simp only [Act.put, List.setIfInBounds_toArray, List.set_cons_zero, List.set_cons_succ, List.getElem_toArray, List.getElem_cons_succ, List.getElem_cons_zero]))
    refine wpC_last rfl (by rfl) (fun K hK => ?_)
    go_simp
    refine hK _ _ ?_
    clear hK K
    try simp only [Act.put, List.setIfInBounds_toArray, List.set_cons_zero, List.set_cons_succ, List.getElem_toArray, List.getElem_cons_succ, List.getElem_cons_zero]
    repeat (first
      | (refine wpC_pure (v := ?_) rfl (by rfl) ?_ ?_
         rotate_left 1
         · (intro w; go_simp; try with_reducible rfl)
         try simp only [Act.put, List.setIfInBounds_toArray, List.set_cons_zero, List.set_cons_succ, List.getElem_toArray, List.getElem_cons_succ, List.getElem_cons_zero]))
    refine wpC_nil ?_
    go_wp2_with fail
    refine ret_row2 rfl w.heap.size _ _ _ _ rfl (set4_block (drew_block hS) _ _ _ _) Tryz.underlying91 rfl (by kernel_rfl) rfl ?_
    have ho := HO.out
    have e1 : ((at_ + k : Nat) : Int) = (at_ : Int) + k := by omega
    have e3 : (decide (nv ≤ 9223372036854775807) && (decide (s[at_] ≠ 48) || decide (k = 1))) = true := by
      simp [hfit, h48]
    rw [e1, e3] at ho
    exact ⟨⟨2, _, a, at_, (at_ : Int) + k, true, rfl, fun _ => ho⟩, Keeps.set4 hkw4.drew (Nat.le_refl _) _ _ _ _⟩

end Go.Proofs.YtefcmijobbgpbaaGreatDoor

namespace Go.Proofs.YtefcmijobbgpbaaGreatDoor
open Go.RowKit

theorem Glob.keep {w w' : World} (h : Glob w) (k : Keeps [] w w') : Glob w' :=
  ⟨h.tab.keep k (by simp), by obtain ⟨ev, h1, h2⟩ := h.err; exact ⟨ev, k.cell h1 (by simp), h2⟩, by obtain ⟨t, fr, h1⟩ := h.pow; exact ⟨t, fr, k.heap h1 (by simp)⟩⟩

set_option maxHeartbeats 4000000 in
set_option maxRecDepth 100000 in
theorem one_digit_over (s : ByteArray) (at_ : Nat) (w : World) (hG : Glob w) (hat : at_ < s.size) (hs : s.size ≤ 281474976710656) (hl : isLetter s[at_] = false) (hd : isDigit s[at_] = true)
    (hover : ¬ numVal ((s.data.toList.drop at_).take (spanN isDigit (s.data.toList.drop at_))) ≤ 9223372036854775807) :
    Calls Tryz.prog 55 #[.string s, .int .i64 (at_ : Int)] w fun e w' => OneOut s at_ True e ∧ Keeps [] w w' := by
  have hk0 := Keeps.refl [] w
  have b0 : (0 : Int) ≤ (at_ : Int) := by omega
  have b1 : (at_ : Int) < (s.size : Int) := by omega
  have HG := Lib.hid hG
  have HC := fun w h => Lib.hid (class_any s[at_] w h)
  have hcl : clsI s[at_] = 3 := by
    have := cls_digit s[at_]
    rw [hd, beq_iff_eq] at this
    exact this
  rw [hcl] at HC
  have HO := Lib.hid (oneIs_number hat hl hd 9223372036854775807 (fun h => absurd h hover))
  obtain ⟨d1, d2, d3⟩ := digitsAt_facts s at_ hat hd
  have HP := fun w he => parse_over (digitsAt s at_) w d1 d3 (by omega) he (by rw [digitsAt_list]; exact hover)
  have HP2 := fun w he => Lib.hid (HP w he)
  have hdg : digitsAt s at_ = s.extract at_ (at_ + spanN isDigit (s.data.toList.drop at_)) := rfl
  clear hG hcl hl d1 d2 d3 HP hd
  go_enter Tryz.func55, Tryz.ntmps55
  go_wp2_with (first
    | (go_at_call 82; refine (HC _ (HG.out.tab.keep (hk0.alloc _) (by simp))).out.mono ?_; rintro e w' ⟨rfl, rfl⟩))
  have hk1 := (hk0.alloc (.cells #[.int .i64 0, .string (⟨#[]⟩ : ByteArray), .int .i64 0, .int .i64 at_] 91 (0, 0))).alloc (.cells #[.int .u8 3] 5 (0, 0))
  have hB0 := heap_alloc_new w (.cells #[.int .i64 0, .string (⟨#[]⟩ : ByteArray), .int .i64 0, .int .i64 at_] 91 (0, 0))
  have hB1 := heap_alloc2_new w (.cells #[.int .i64 0, .string (⟨#[]⟩ : ByteArray), .int .i64 0, .int .i64 at_] 91 (0, 0)) (.cells #[.int .u8 3] 5 (0, 0))
  generalize hW : ((w.alloc (.cells #[.int .i64 0, .string (⟨#[]⟩ : ByteArray), .int .i64 0, .int .i64 at_] 91 (0, 0))).alloc (.cells #[.int .u8 3] 5 (0, 0))) = W at *
  have hB2 : W.heap[w.heap.size]? = some (.cells #[.int .i64 0, .string (⟨#[]⟩ : ByteArray), .int .i64 0, .int .i64 at_] 91 (0, 0)) := by
    rw [← hW]
    exact (Keeps.alloc (Keeps.refl [] _) _).heap hB0 (by simp)
  clear hW hB0
  refine (run_digit s at_ (w.heap.size + 1) W (HG.out.tab.keep hk1 (by simp)) (Nat.le_of_lt hat) (by omega) hB1).mono ?_
  rintro e w2 ⟨rfl, hk2⟩
  have hsp := spanN_le isDigit (s.data.toList.drop at_)
  have hsl : (s.data.toList.drop at_).length = s.size - at_ := by rw [List.length_drop]; rfl
  generalize hnv : numVal ((s.data.toList.drop at_).take (spanN isDigit (s.data.toList.drop at_))) = nv at *
  clear hnv
  generalize spanN isDigit (s.data.toList.drop at_) = k at *
  rw [hdg] at HP2
  clear hdg
  have q1 : (at_ : Int) ≤ (at_ : Int) + k := by omega
  have q2 : (at_ : Int) + k ≤ (s.size : Int) := by omega
  have q3 : IntKind.i64.wrap ((at_ : Int) + 1) = (at_ : Int) + 1 := IntWalk.i64_in _ (by omega)
  clear hsp hsl
  go_wp2_with fail
  refine (HP2 _ (HG.out.keep (hk1.then hk2)).err).out.mono ?_
  rintro e w3 ⟨⟨N, rfl⟩, hk3⟩
  have hB3 := hk3.heap (hk2.heap hB2 (by simp)) (by simp)
  have hkw := (hk1.then hk2).then hk3
  obtain ⟨c0, c1, c2, c3, z0, z1, z2, z3⟩ := tok_block hB3
  have hand : Go.bits .and .u64 (9223372036854775807 : Int) 9223372036854775807 = 9223372036854775807 := by
    have h := bits_and_u64_nat 9223372036854775807 9223372036854775807 (by omega) (by omega)
    rw [Nat.and_self] at h
    exact h
  go_wp2_with fail
  have hS := set02_block hB3 (.int .i64 2) (.int .i64 9223372036854775807)
  have hkw4 := (hkw.setCell (.inr (Nat.le_refl w.heap.size)) (p := ⟨w.heap.size, 0, none⟩) (.int .i64 2)).setCell (.inr (Nat.le_refl w.heap.size)) (p := ⟨w.heap.size, 2, none⟩) (.int .i64 9223372036854775807)
  generalize hW4 : ((w3.setCell ⟨w.heap.size, 0, none⟩ (.int .i64 2)).setCell ⟨w.heap.size, 2, none⟩ (.int .i64 9223372036854775807)) = W4 at *
  clear hW4 c0 c1 c2 c3 z0 z1 z2 z3
  obtain ⟨c0, c1, c2, c3, z0, z1, z2, z3⟩ := tok_block hS
  have HS4 := Lib.hid (And.intro c0 (And.intro c1 (And.intro c2 c3)))
  refine wp_region_chain (fun W' => W'.cell? ⟨w.heap.size, 0, none⟩ = some (.int .i64 2) ∧ W'.cell? ⟨w.heap.size, 1, none⟩ = some (.string ⟨#[]⟩) ∧ W'.cell? ⟨w.heap.size, 2, none⟩ = some (.int .i64 9223372036854775807) ∧ W'.cell? ⟨w.heap.size, 3, none⟩ = some (.int .i64 at_)) [16] [(0, 1), (1, 0), (2, 0), (3, 0), (4, 0), (5, 0), (6, 0), (7, 0), (8, 0), (9, 0), (10, 0), (11, 0), (12, 0), (13, 0), (14, 0), (15, 0), (16, 3), (17, 0), (18, 0)] (by kernel_rfl) (by kernel_rfl) (fun _ d _ _ _ h => by cases d <;> exact h) HS4.out ?_
  repeat (first
    | (refine wpC_pure (v := ?_) rfl (by rfl) ?_ ?_
       rotate_left 1
       · (intro w; go_simp; try with_reducible rfl)
       try simp only [Act.put, List.setIfInBounds_toArray, List.set_cons_zero, List.set_cons_succ, List.getElem_toArray, List.getElem_cons_succ, List.getElem_cons_zero])
    | (refine wpC_held (v := ?_) rfl (by rfl) ?_ ?_
       rotate_left 1
       · (rintro w ⟨x0, x1, x2, x3⟩; go_simp; try with_reducible rfl)
       try simp only [Act.put, List.setIfInBounds_toArray, List.set_cons_zero, List.set_cons_succ, List.getElem_toArray, List.getElem_cons_zero])
    | (refine wpC_pass rfl (by rfl) (by decide) ?_
       try simp only [Act.put, List.setIfInBounds_toArray, List.set_cons_zero, List.set_cons_succ, List.getElem_toArray, List.getElem_cons_succ, List.getElem_cons_zero]))
  refine wpC_last rfl (by rfl) (fun K hK => ?_)
  go_simp
  refine hK _ _ ?_
  clear hK K
  try simp only [Act.put, List.setIfInBounds_toArray, List.set_cons_zero, List.set_cons_succ, List.getElem_toArray, List.getElem_cons_succ, List.getElem_cons_zero]
  repeat (first
    | (refine wpC_pure (v := ?_) rfl (by rfl) ?_ ?_
       rotate_left 1
       · (intro w; go_simp; try with_reducible rfl)
       try simp only [Act.put, List.setIfInBounds_toArray, List.set_cons_zero, List.set_cons_succ, List.getElem_toArray, List.getElem_cons_succ, List.getElem_cons_zero]))
  refine wpC_nil ?_
  go_wp2_with fail
  refine ret_row2 rfl w.heap.size _ _ _ _ rfl (set4_block (drew_block hS) _ _ _ _) Tryz.underlying91 rfl (by kernel_rfl) rfl ?_
  have ho := HO.out
  have e1 : ((at_ + k : Nat) : Int) = (at_ : Int) + k := by omega
  have e3 : (decide (nv ≤ 9223372036854775807) && (decide (s[at_] ≠ 48) || decide (k = 1))) = false := by
    simp [hover]
  rw [e1, e3] at ho
  exact ⟨⟨2, _, 9223372036854775807, at_, (at_ : Int) + k, false, rfl, fun _ => ho⟩, Keeps.set4 hkw4.drew (Nat.le_refl _) _ _ _ _⟩

end Go.Proofs.YtefcmijobbgpbaaGreatDoor

namespace Go.Proofs.YtefcmijobbgpbaaGreatDoor
open Go.RowKit

theorem lex_text {s : ByteArray} {at_ : Nat} (hat : at_ < s.size) (h39 : s[at_] = 39) :
    lexOne (s.data.toList.drop at_) = if ((s.data.toList.drop (at_ + 1)).drop (spanN inText (s.data.toList.drop (at_ + 1)))).head? = some 39 ∧ spanN inText (s.data.toList.drop (at_ + 1)) ≤ 256 then
      some (⟨3, (s.data.toList.drop (at_ + 1)).take (spanN inText (s.data.toList.drop (at_ + 1))), 0⟩, spanN inText (s.data.toList.drop (at_ + 1)) + 2) else none := by
  have hd : s.data.toList.drop at_ = s[at_] :: s.data.toList.drop (at_ + 1) := List.drop_eq_getElem_cons (by exact hat)
  have hl : isLetter s[at_] = false := by rw [h39]; decide
  have hg : isDigit s[at_] = false := by rw [h39]; decide
  rw [hd, lexOne, if_neg (by simp [hl]), if_neg (by simp [hg]), if_pos h39]

theorem quoteAt_rest (s : ByteArray) (at_ : Nat) : quoteAt (s.extract (at_ + 1) s.size) = if spanN inText (s.data.toList.drop (at_ + 1)) < s.size - (at_ + 1) then (spanN inText (s.data.toList.drop (at_ + 1)) : Int) else -1 := by
  have h : (s.extract (at_ + 1) s.size).data.toList = s.data.toList.drop (at_ + 1) := by
    rw [extract_list]
    exact List.take_of_length_le (by rw [List.length_drop]; exact Nat.le_refl _)
  have h2 : (s.extract (at_ + 1) s.size).size = s.size - (at_ + 1) := by simp
  unfold quoteAt
  rw [h, h2]

theorem text_facts {s : ByteArray} {at_ : Nat} (hat : at_ < s.size) (h39 : s[at_] = 39) : ∃ k, quoteAt (s.extract (at_ + 1) s.size) = (if k < s.size - (at_ + 1) then (k : Int) else -1) ∧ k ≤ s.size - (at_ + 1) ∧
    (∀ h : at_ + 1 + k < s.size, lexOne (s.data.toList.drop at_) = if s[at_ + 1 + k] = 39 ∧ k ≤ 256 then some (⟨3, (s.extract (at_ + 1) (at_ + 1 + k)).data.toList, 0⟩, k + 2) else none) ∧
    (∀ h : at_ + 1 + k < s.size, s[at_ + 1 + k] = 39 ∨ s[at_ + 1 + k] = 10) ∧
    (¬ k < s.size - (at_ + 1) → lexOne (s.data.toList.drop at_) = none) := by
  have hsz : s.data.toList.length = s.size := rfl
  have hsp := spanN_le inText (s.data.toList.drop (at_ + 1))
  rw [List.length_drop, hsz] at hsp
  refine ⟨spanN inText (s.data.toList.drop (at_ + 1)), quoteAt_rest s at_, hsp, ?_, ?_, ?_⟩
  · intro h
    rw [lex_text hat h39, List.drop_drop, List.head?_drop, List.getElem?_eq_getElem h, extract_list, Nat.add_sub_cancel_left]
    simp only [Option.some.injEq]
    rfl
  · intro h
    have hs := span_at (p := inText) (l := s.data.toList) (j := at_ + 1 + spanN inText (s.data.toList.drop (at_ + 1))) h
    have hjc : s.data.toList[at_ + 1 + spanN inText (s.data.toList.drop (at_ + 1))]'h = s[at_ + 1 + spanN inText (s.data.toList.drop (at_ + 1))] := rfl
    rw [hjc] at hs
    cases hin : inText s[at_ + 1 + spanN inText (s.data.toList.drop (at_ + 1))] with
    | false =>
      simp only [inText, Bool.not_eq_false', Bool.or_eq_true, beq_iff_eq] at hin
      exact hin
    | true =>
      exfalso
      rw [hin, if_pos rfl] at hs
      have h0 : spanN inText ((s.data.toList.drop (at_ + 1)).drop (spanN inText (s.data.toList.drop (at_ + 1)))) = 0 := by
        have e := List.takeWhile_append_dropWhile (p := inText) (l := s.data.toList.drop (at_ + 1))
        have e2 : (s.data.toList.drop (at_ + 1)).drop (spanN inText (s.data.toList.drop (at_ + 1))) = (s.data.toList.drop (at_ + 1)).dropWhile inText := by
          have h3 : ∀ l : List UInt8, l.drop (l.takeWhile inText).length = l.dropWhile inText := by
            intro l
            induction l with
            | nil => rfl
            | cons a l ih =>
              rw [List.takeWhile_cons, List.dropWhile_cons]
              split
              · simpa using ih
              · rfl
          exact h3 _
        rw [e2]
        unfold spanN
        cases hdw : (s.data.toList.drop (at_ + 1)).dropWhile inText with
        | nil => rfl
        | cons b r =>
          have := List.head?_dropWhile_not inText (s.data.toList.drop (at_ + 1))
          rw [hdw] at this
          simp at this
          rw [List.takeWhile_cons, this]
          rfl
      rw [List.drop_drop] at h0
      omega
  · intro h
    rw [lex_text hat h39, List.drop_drop, List.drop_eq_nil_of_le (by omega), if_neg]
    rintro ⟨h1, _⟩
    cases h1

set_option maxHeartbeats 4000000 in
set_option maxRecDepth 100000 in
theorem one_text (s : ByteArray) (at_ : Nat) (w : World) (hG : Glob w) (hat : at_ < s.size) (hs : s.size ≤ 281474976710656) (h39 : s[at_] = 39) :
    Calls Tryz.prog 55 #[.string s, .int .i64 (at_ : Int)] w fun e w' => OneOut s at_ True e ∧ Keeps [] w w' := by
  have hk0 := Keeps.refl [] w
  have b0 : (0 : Int) ≤ (at_ : Int) := by omega
  have b1 : (at_ : Int) < (s.size : Int) := by omega
  have q3 : IntKind.i64.wrap ((at_ : Int) + 1) = (at_ : Int) + 1 := IntWalk.i64_in _ (by omega)
  have q4 : (at_ : Int) + 1 ≤ (s.size : Int) := by omega
  have HG := Lib.hid hG
  have HC := fun w h => Lib.hid (class_any s[at_] w h)
  have hcl : clsI s[at_] = 4 := by rw [h39]; decide
  rw [hcl] at HC
  obtain ⟨k, hq, hsp, hL, hor, hN⟩ := text_facts hat h39
  have hle : (s.extract (at_ + 1) s.size).size ≤ 4611686018427387904 := by simp; omega
  have HI := fun w => indexAny_quote (s.extract (at_ + 1) s.size) w hle
  rw [hq] at HI
  have HL := Lib.hid hL
  have HN := Lib.hid hN
  have HOr := Lib.hid hor
  clear hG hcl hq hle h39 hL hN hor
  go_enter Tryz.func55, Tryz.ntmps55
  by_cases hlt : k < s.size - (at_ + 1)
  · rw [if_pos hlt] at HI
    have HI2 := fun w => Lib.hid (HI w)
    clear HI
    have p1 : (0 : Int) ≤ (at_ : Int) + 1 + k := by omega
    have p2 : (at_ : Int) + 1 + k < (s.size : Int) := by omega
    have p3 : IntKind.i64.wrap ((at_ : Int) + 1 + k) = (at_ : Int) + 1 + k := IntWalk.i64_in _ (by omega)
    go_wp2_with (first
      | (go_at_call 82; refine (HC _ (HG.out.tab.keep (hk0.alloc _) (by simp))).out.mono ?_; rintro e w' ⟨rfl, rfl⟩)
      | (go_at_call 84; refine (HI2 _).out.mono ?_; rintro e w2 ⟨rfl, hk2⟩; obtain ⟨c0, c1, c2, c3, z0, z1, z2, z3⟩ := tok_block (hk2.heap (heap_alloc_new _ _) (by simp))))
    all_goals have hp : at_ + 1 + k < s.size := by omega
    · refine ret_row2 rfl w.heap.size _ _ _ _ rfl (set4_block (hk2.heap (heap_alloc_new _ _) (by simp)) _ _ _ _) Tryz.underlying91 rfl (by kernel_rfl) rfl ?_
      have hno : lexOne (s.data.toList.drop at_) = none := by
        rw [HL.out hp, if_neg]
        rintro ⟨e39, e256⟩
        have e2 : s[at_ + 1 + k].toNat = 39 := by rw [e39]; rfl
        omega
      exact ⟨⟨0, ⟨#[]⟩, 0, at_, 0, false, rfl, fun _ => OneIs.of_none hno 0 _ 0 at_ 0 rfl⟩, Keeps.set4 ((hk0.alloc _).then hk2) (Nat.le_refl _) _ _ _ _⟩
    · have p6 : (0 : Int) ≤ (at_ : Int) + 1 := by omega
      have hkw := (hk0.alloc (.cells #[.int .i64 0, .string (⟨#[]⟩ : ByteArray), .int .i64 0, .int .i64 at_] 91 (0, 0))).then hk2
      have hB := hk2.heap (heap_alloc_new w (.cells #[.int .i64 0, .string (⟨#[]⟩ : ByteArray), .int .i64 0, .int .i64 at_] 91 (0, 0))) (by simp)
      have p4 : (at_ : Int) + 1 ≤ (at_ : Int) + 1 + k := by omega
      have p5 : (at_ : Int) + 1 + k ≤ (s.size : Int) := by omega
      refine wp_region_chain (fun _ => True) [] [(0, 0), (1, 0), (2, 0), (3, 0), (4, 0), (5, 0), (6, 0), (7, 0), (8, 0), (9, 2), (10, 0), (11, 2)] (by kernel_rfl) (by kernel_rfl) (fun _ d _ _ _ h => by cases d <;> exact h) trivial ?_
      repeat (first
        | (refine wpC_pure (v := ?_) rfl (by rfl) ?_ ?_
           rotate_left 1
           · (intro w; go_simp; try with_reducible rfl)
           try simp only [Act.put, List.setIfInBounds_toArray, List.set_cons_zero, List.set_cons_succ, List.getElem_toArray, List.getElem_cons_succ, List.getElem_cons_zero]))
      refine wpC_step rfl (by rfl) (fun K hK => ?_)
      go_simp
      refine hK _ _ trivial ?_
      clear hK K
      try simp only [Act.put, List.setIfInBounds_toArray, List.set_cons_zero, List.set_cons_succ, List.getElem_toArray, List.getElem_cons_succ, List.getElem_cons_zero]
      repeat (first
        | (refine wpC_pure (v := ?_) rfl (by rfl) ?_ ?_
           rotate_left 1
           · (intro w; go_simp; try with_reducible rfl)
           try simp only [Act.put, List.setIfInBounds_toArray, List.set_cons_zero, List.set_cons_succ, List.getElem_toArray, List.getElem_cons_succ, List.getElem_cons_zero]))
      refine wpC_step rfl (by rfl) (fun K hK => ?_)
      go_simp
      refine hK _ _ trivial ?_
      clear hK K
      try simp only [Act.put, List.setIfInBounds_toArray, List.set_cons_zero, List.set_cons_succ, List.getElem_toArray, List.getElem_cons_succ, List.getElem_cons_zero]
      refine wpC_nil ?_
      go_wp2_with fail
      refine ret_row2 rfl w.heap.size _ _ _ _ rfl (drew_block (set4_block (set01_block hB _ _) _ _ _ _)) Tryz.underlying91 rfl (by kernel_rfl) rfl ?_
      have hsome : lexOne (s.data.toList.drop at_) = some (⟨3, (s.extract (at_ + 1) (at_ + 1 + k)).data.toList, 0⟩, k + 2) := by
        rw [HL.out hp, if_pos ⟨UInt8.toNat_inj.1 (by show s[at_ + 1 + k].toNat = 39; omega), by omega⟩]
      have e1 : ((at_ + (k + 2) : Nat) : Int) = (at_ : Int) + k + 2 := by omega
      have ho := OneIs.of_some hsome rfl
      rw [e1] at ho
      exact ⟨⟨3, _, 0, at_, (at_ : Int) + k + 2, true, rfl, fun _ => ho⟩, (Keeps.set4 ((hkw.setCell (.inr (Nat.le_refl _)) _).setCell (.inr (Nat.le_refl _)) _) (Nat.le_refl _) _ _ _ _).drew⟩
    · refine ret_row2 rfl w.heap.size _ _ _ _ rfl (set4_block (hk2.heap (heap_alloc_new _ _) (by simp)) _ _ _ _) Tryz.underlying91 rfl (by kernel_rfl) rfl ?_
      have hno : lexOne (s.data.toList.drop at_) = none := by
        rw [HL.out hp, if_neg]
        rintro ⟨e39, e256⟩
        have e2 : s[at_ + 1 + k].toNat = 39 := by rw [e39]; rfl
        omega
      exact ⟨⟨0, ⟨#[]⟩, 0, at_, 0, false, rfl, fun _ => OneIs.of_none hno 0 _ 0 at_ 0 rfl⟩, Keeps.set4 ((hk0.alloc _).then hk2) (Nat.le_refl _) _ _ _ _⟩
  · rw [if_neg hlt] at HI
    have HI2 := fun w => Lib.hid (HI w)
    have hno := Lib.hid (HN.out hlt)
    clear HI HL HOr HN
    have d1 : decide ((-1 : Int) < 0) = true := rfl
    go_wp2_with (first
      | (go_at_call 82; refine (HC _ (HG.out.tab.keep (hk0.alloc _) (by simp))).out.mono ?_; rintro e w' ⟨rfl, rfl⟩)
      | (go_at_call 84; refine (HI2 _).out.mono ?_; rintro e w2 ⟨rfl, hk2⟩; obtain ⟨c0, c1, c2, c3, z0, z1, z2, z3⟩ := tok_block (hk2.heap (heap_alloc_new _ _) (by simp))))
    refine ret_row2 rfl w.heap.size _ _ _ _ rfl (set4_block (hk2.heap (heap_alloc_new _ _) (by simp)) _ _ _ _) Tryz.underlying91 rfl (by kernel_rfl) rfl ?_
    exact ⟨⟨0, ⟨#[]⟩, 0, at_, 0, false, rfl, fun _ => OneIs.of_none hno.out 0 _ 0 at_ 0 rfl⟩, Keeps.set4 ((hk0.alloc _).then hk2) (Nat.le_refl _) _ _ _ _⟩

end Go.Proofs.YtefcmijobbgpbaaGreatDoor

namespace Go.Proofs.YtefcmijobbgpbaaGreatDoor
open Go.RowKit

theorem sign3 (c : UInt8) : decide (0 ≤ Lib.indexByte (⟨#[60, 61, 33]⟩ : ByteArray).data.toList c) = (c == 60 || c == 61 || c == 33) := by
  have := all_bytes (p := fun c => decide (0 ≤ Lib.indexByte (⟨#[60, 61, 33]⟩ : ByteArray).data.toList c) == (c == 60 || c == 61 || c == 33)) (by decide +kernel) c
  simpa using this

theorem lex_sign {s : ByteArray} {at_ : Nat} (hat : at_ < s.size) (hsg : isSign s[at_] = true) :
    lexOne (s.data.toList.drop at_) = if (s[at_] = 60 ∨ s[at_] = 61 ∨ s[at_] = 33) ∧ (s.data.toList.drop (at_ + 1)).head? = some 61 then some (⟨4, [s[at_], 61], 0⟩, 2) else if s[at_] = 33 then none else some (⟨4, [s[at_]], 0⟩, 1) := by
  have hd : s.data.toList.drop at_ = s[at_] :: s.data.toList.drop (at_ + 1) := List.drop_eq_getElem_cons (by exact hat)
  have hx := all_bytes (p := fun c => !isSign c || (!isLetter c && !isDigit c && c != 39)) (by decide +kernel) s[at_]
  rw [hsg] at hx
  simp only [Bool.not_true, Bool.false_or, Bool.and_eq_true, Bool.not_eq_true', bne_iff_ne, ne_eq] at hx
  rw [hd, lexOne, if_neg (by simp [hx.1.1]), if_neg (by simp [hx.1.2]), if_neg hx.2, if_pos hsg]

theorem ext_one {s : ByteArray} {at_ : Nat} (hat : at_ < s.size) : s.extract at_ (at_ + 1) = ⟨[s[at_]].toArray⟩ := by
  rw [extract_list, List.drop_eq_getElem_cons (by exact hat)]
  have : at_ + 1 - at_ = 1 := by omega
  rw [this]
  rfl
theorem ext_two {s : ByteArray} {at_ : Nat} (h : at_ + 1 < s.size) : s.extract at_ (at_ + 2) = ⟨[s[at_], s[at_ + 1]].toArray⟩ := by
  rw [extract_list, List.drop_eq_getElem_cons (show at_ < s.data.toList.length from (by have : s.data.toList.length = s.size := rfl; omega)), List.drop_eq_getElem_cons (by exact h)]
  have : at_ + 2 - at_ = 2 := by omega
  rw [this]
  rfl
theorem head_next {s : ByteArray} {at_ : Nat} (h : at_ + 1 < s.size) : (s.data.toList.drop (at_ + 1)).head? = some s[at_ + 1] := by
  rw [List.drop_eq_getElem_cons (by exact h)]
  rfl

theorem sign_two {s : ByteArray} {at_ : Nat} (h : at_ + 1 < s.size) (hsg : isSign s[at_] = true) (h1 : (s[at_ + 1].toNat : Int) = 61) (h2 : s[at_] = 60 ∨ s[at_] = 61 ∨ s[at_] = 33) :
    OneIs s at_ (.tuple #[.agg #[.int .i64 4, .string (s.extract at_ (at_ + 2)), .int .i64 0, .int .i64 at_], .int .i64 ((at_ : Int) + 2), .bool (!((s.extract at_ (at_ + 2)).toList == [33]))]) := by
  have h61 : s[at_ + 1] = 61 := UInt8.toNat_inj.1 (by show s[at_ + 1].toNat = 61; omega)
  refine OneIs.of_some (t := ⟨4, [s[at_], 61], 0⟩) (k := 2) ?_ ?_
  · rw [lex_sign (by omega) hsg, if_pos ⟨h2, by rw [head_next h, h61]⟩]
  · have e : ((⟨[s[at_], s[at_ + 1]].toArray⟩ : ByteArray).toList == [33]) = false := by
      rw [ByteArray.toList_eq]
      show ([s[at_], s[at_ + 1]] == [33]) = false
      simp
    rw [ext_two h, e, h61]
    rfl

theorem sign_one {s : ByteArray} {at_ : Nat} (hat : at_ < s.size) (hsg : isSign s[at_] = true) (h : ¬ ((s[at_] = 60 ∨ s[at_] = 61 ∨ s[at_] = 33) ∧ ∃ h : at_ + 1 < s.size, (s[at_ + 1].toNat : Int) = 61)) :
    OneIs s at_ (.tuple #[.agg #[.int .i64 4, .string (s.extract at_ (at_ + 1)), .int .i64 0, .int .i64 at_], .int .i64 ((at_ : Int) + 1), .bool (!((s.extract at_ (at_ + 1)).toList == [33]))]) := by
  have hn : ¬ ((s[at_] = 60 ∨ s[at_] = 61 ∨ s[at_] = 33) ∧ (s.data.toList.drop (at_ + 1)).head? = some 61) := by
    rintro ⟨h1, h2⟩
    rcases Nat.lt_or_ge (at_ + 1) s.size with h3 | h3
    · rw [head_next h3] at h2
      have h4 := Option.some.inj h2
      exact h ⟨h1, h3, by rw [h4]; rfl⟩
    · rw [List.drop_eq_nil_of_le (by exact h3)] at h2
      cases h2
  have e : ((⟨[s[at_]].toArray⟩ : ByteArray).toList == [33]) = (s[at_] == 33) := by
    rw [ByteArray.toList_eq]
    show ([s[at_]] == [33]) = (s[at_] == 33)
    rw [Bool.eq_iff_iff]
    simp
  rw [ext_one hat, e]
  have hL := lex_sign hat hsg
  rw [if_neg hn] at hL
  by_cases h33 : s[at_] = 33
  · rw [if_pos h33] at hL
    refine OneIs.of_none hL 4 (⟨[s[at_]].toArray⟩ : ByteArray) 0 at_ ((at_ : Int) + 1) ?_
    have e2 : (!(s[at_] == 33)) = false := by simp [h33]
    rw [e2]
    rfl
  · rw [if_neg h33] at hL
    refine OneIs.of_some hL ?_
    have e2 : (!(s[at_] == 33)) = true := by simp [h33]
    rw [e2]
    rfl

set_option maxHeartbeats 4000000 in
set_option maxRecDepth 100000 in
theorem one_sign (s : ByteArray) (at_ : Nat) (w : World) (hG : Glob w) (hat : at_ < s.size) (hs : s.size ≤ 281474976710656) (hsg : isSign s[at_] = true) :
    Calls Tryz.prog 55 #[.string s, .int .i64 (at_ : Int)] w fun e w' => OneOut s at_ True e ∧ Keeps [] w w' := by
  have hk0 := Keeps.refl [] w
  have b0 : (0 : Int) ≤ (at_ : Int) := by omega
  have b1 : (at_ : Int) < (s.size : Int) := by omega
  have q3 : IntKind.i64.wrap ((at_ : Int) + 1) = (at_ : Int) + 1 := IntWalk.i64_in _ (by omega)
  have q5 : IntKind.i64.wrap ((at_ : Int) + 1 + 1) = (at_ : Int) + 2 := IntWalk.i64_in _ (by omega) |>.trans (by omega)
  have HG := Lib.hid hG
  have HC := fun w h => Lib.hid (class_any s[at_] w h)
  have hcl : clsI s[at_] = 5 := by
    have := cls_sign s[at_]
    rw [hsg, beq_iff_eq] at this
    exact this
  rw [hcl] at HC
  have HS1 := Lib.hid (sign_one hat hsg)
  have HS2 := Lib.hid (fun h h1 h2 => sign_two h hsg h1 h2)
  have hI := fun w => indexByte_any ⟨#[60, 61, 33]⟩ (s[at_].toNat : Int) w
  have hback : ((s[at_].toNat : Int)).toNat.toUInt8 = s[at_] := by simp
  have h3 := sign3 s[at_]
  rw [hback] at hI
  generalize Lib.indexByte (⟨#[60, 61, 33]⟩ : ByteArray).data.toList s[at_] = r at *
  have HI := fun w => Lib.hid (hI w)
  have H3 := Lib.hid h3
  clear hG hcl hsg hI hback h3
  go_enter Tryz.func55, Tryz.ntmps55
  by_cases hlt : at_ + 1 < s.size
  · have d1 : decide ((at_ : Int) + 1 < (s.size : Int)) = true := by simp; omega
    have p1 : (0 : Int) ≤ (at_ : Int) + 1 := by omega
    have p2 : (at_ : Int) + 1 < (s.size : Int) := by omega
    have p3 : (at_ : Int) + 2 ≤ (s.size : Int) := by omega
    have p4 : (at_ : Int) ≤ (at_ : Int) + 2 := by omega
    have p5 : (at_ : Int) ≤ (at_ : Int) + 1 := by omega
    have p6 : (at_ : Int) + 1 ≤ (s.size : Int) := by omega
    go_wp2_with (first
      | (go_at_call 82; refine (HC _ (HG.out.tab.keep (hk0.alloc _) (by simp))).out.mono ?_; rintro e w' ⟨rfl, rfl⟩)
      | (go_at_call 81; refine (HI _).out.mono ?_; rintro e w2 ⟨rfl, rfl⟩))
    all_goals
      have hB := heap_alloc_new w (.cells #[.int .i64 0, .string (⟨#[]⟩ : ByteArray), .int .i64 0, .int .i64 at_] 91 (0, 0))
      have hkw := hk0.alloc (.cells #[.int .i64 0, .string (⟨#[]⟩ : ByteArray), .int .i64 0, .int .i64 at_] 91 (0, 0))
      generalize (w.alloc (.cells #[.int .i64 0, .string (⟨#[]⟩ : ByteArray), .int .i64 0, .int .i64 at_] 91 (0, 0))) = w2 at *
      obtain ⟨c0, c1, c2, c3, z0, z1, z2, z3⟩ := tok_block hB
      refine wp_region_chain (fun _ => True) [] [(0, 0), (1, 0), (2, 0), (3, 0), (4, 0), (5, 2), (6, 0), (7, 2)] (by kernel_rfl) (by kernel_rfl) (fun _ d _ _ _ h => by cases d <;> exact h) trivial ?_
      repeat (first
        | (refine wpC_pure (v := ?_) rfl (by rfl) ?_ ?_
           rotate_left 1
           · (intro w; go_simp; try with_reducible rfl)
           try simp only [Act.put, List.setIfInBounds_toArray, List.set_cons_zero, List.set_cons_succ, List.getElem_toArray, List.getElem_cons_succ, List.getElem_cons_zero]))
      refine wpC_step rfl (by rfl) (fun K hK => ?_)
      go_simp
      refine hK _ _ trivial ?_
      clear hK K
      try simp only [Act.put, List.setIfInBounds_toArray, List.set_cons_zero, List.set_cons_succ, List.getElem_toArray, List.getElem_cons_succ, List.getElem_cons_zero]
      repeat (first
        | (refine wpC_pure (v := ?_) rfl (by rfl) ?_ ?_
           rotate_left 1
           · (intro w; go_simp; try with_reducible rfl)
           try simp only [Act.put, List.setIfInBounds_toArray, List.set_cons_zero, List.set_cons_succ, List.getElem_toArray, List.getElem_cons_succ, List.getElem_cons_zero]))
      refine wpC_step rfl (by rfl) (fun K hK => ?_)
      go_simp
      refine hK _ _ trivial ?_
      clear hK K
      try simp only [Act.put, List.setIfInBounds_toArray, List.set_cons_zero, List.set_cons_succ, List.getElem_toArray, List.getElem_cons_succ, List.getElem_cons_zero]
      refine wpC_nil ?_
      go_wp2_with fail
      refine ret_row2 rfl w.heap.size _ _ _ _ rfl (drew_block (set4_block (set01_block hB _ _) _ _ _ _)) Tryz.underlying91 rfl (by kernel_rfl) rfl ?_
      have h3 := H3.out
    · have hor : s[at_] = 60 ∨ s[at_] = 61 ∨ s[at_] = 33 := by
        have h4 : decide (0 ≤ r) = true := by simp; assumption
        rw [h4] at h3
        have h5 := h3.symm
        simp only [Bool.or_eq_true, beq_iff_eq] at h5
        rcases h5 with (h | h) | h
        · exact .inl h
        · exact .inr (.inl h)
        · exact .inr (.inr h)
      exact ⟨⟨4, _, 0, at_, (at_ : Int) + 2, _, rfl, fun _ => HS2.out hlt (by assumption) hor⟩, (Keeps.set4 ((hkw.setCell (.inr (Nat.le_refl _)) _).setCell (.inr (Nat.le_refl _)) _) (Nat.le_refl _) _ _ _ _).drew⟩
    · have hno : ¬ ((s[at_] = 60 ∨ s[at_] = 61 ∨ s[at_] = 33) ∧ ∃ h : at_ + 1 < s.size, (s[at_ + 1].toNat : Int) = 61) := by
        have h4 : decide (0 ≤ r) = false := by simp; assumption
        rw [h4] at h3
        have h5 := h3.symm
        simp only [Bool.or_eq_false_iff, beq_eq_false_iff_ne] at h5
        rintro ⟨h | h | h, _⟩
        · exact h5.1.1 h
        · exact h5.1.2 h
        · exact h5.2 h
      exact ⟨⟨4, _, 0, at_, (at_ : Int) + 1, _, rfl, fun _ => HS1.out hno⟩, (Keeps.set4 ((hkw.setCell (.inr (Nat.le_refl _)) _).setCell (.inr (Nat.le_refl _)) _) (Nat.le_refl _) _ _ _ _).drew⟩
    · have hno : ¬ ((s[at_] = 60 ∨ s[at_] = 61 ∨ s[at_] = 33) ∧ ∃ h : at_ + 1 < s.size, (s[at_ + 1].toNat : Int) = 61) := by
        rintro ⟨_, _, h⟩
        omega
      exact ⟨⟨4, _, 0, at_, (at_ : Int) + 1, _, rfl, fun _ => HS1.out hno⟩, (Keeps.set4 ((hkw.setCell (.inr (Nat.le_refl _)) _).setCell (.inr (Nat.le_refl _)) _) (Nat.le_refl _) _ _ _ _).drew⟩
  · have d1 : decide ((at_ : Int) + 1 < (s.size : Int)) = false := by simp; omega
    have p5 : (at_ : Int) ≤ (at_ : Int) + 1 := by omega
    have p6 : (at_ : Int) + 1 ≤ (s.size : Int) := by omega
    go_wp2_with (first
      | (go_at_call 82; refine (HC _ (HG.out.tab.keep (hk0.alloc _) (by simp))).out.mono ?_; rintro e w' ⟨rfl, rfl⟩)
      | (go_at_call 81; refine (HI _).out.mono ?_; rintro e w2 ⟨rfl, rfl⟩))
    all_goals
      have hB := heap_alloc_new w (.cells #[.int .i64 0, .string (⟨#[]⟩ : ByteArray), .int .i64 0, .int .i64 at_] 91 (0, 0))
      have hkw := hk0.alloc (.cells #[.int .i64 0, .string (⟨#[]⟩ : ByteArray), .int .i64 0, .int .i64 at_] 91 (0, 0))
      generalize (w.alloc (.cells #[.int .i64 0, .string (⟨#[]⟩ : ByteArray), .int .i64 0, .int .i64 at_] 91 (0, 0))) = w2 at *
      obtain ⟨c0, c1, c2, c3, z0, z1, z2, z3⟩ := tok_block hB
      refine wp_region_chain (fun _ => True) [] [(0, 0), (1, 0), (2, 0), (3, 0), (4, 0), (5, 2), (6, 0), (7, 2)] (by kernel_rfl) (by kernel_rfl) (fun _ d _ _ _ h => by cases d <;> exact h) trivial ?_
      repeat (first
        | (refine wpC_pure (v := ?_) rfl (by rfl) ?_ ?_
           rotate_left 1
           · (intro w; go_simp; try with_reducible rfl)
           try simp only [Act.put, List.setIfInBounds_toArray, List.set_cons_zero, List.set_cons_succ, List.getElem_toArray, List.getElem_cons_succ, List.getElem_cons_zero]))
      refine wpC_step rfl (by rfl) (fun K hK => ?_)
      go_simp
      refine hK _ _ trivial ?_
      clear hK K
      try simp only [Act.put, List.setIfInBounds_toArray, List.set_cons_zero, List.set_cons_succ, List.getElem_toArray, List.getElem_cons_succ, List.getElem_cons_zero]
      repeat (first
        | (refine wpC_pure (v := ?_) rfl (by rfl) ?_ ?_
           rotate_left 1
           · (intro w; go_simp; try with_reducible rfl)
           try simp only [Act.put, List.setIfInBounds_toArray, List.set_cons_zero, List.set_cons_succ, List.getElem_toArray, List.getElem_cons_succ, List.getElem_cons_zero]))
      refine wpC_step rfl (by rfl) (fun K hK => ?_)
      go_simp
      refine hK _ _ trivial ?_
      clear hK K
      try simp only [Act.put, List.setIfInBounds_toArray, List.set_cons_zero, List.set_cons_succ, List.getElem_toArray, List.getElem_cons_succ, List.getElem_cons_zero]
      refine wpC_nil ?_
      go_wp2_with fail
      refine ret_row2 rfl w.heap.size _ _ _ _ rfl (drew_block (set4_block (set01_block hB _ _) _ _ _ _)) Tryz.underlying91 rfl (by kernel_rfl) rfl ?_
      have h3 := H3.out
    have hno : ¬ ((s[at_] = 60 ∨ s[at_] = 61 ∨ s[at_] = 33) ∧ ∃ h : at_ + 1 < s.size, (s[at_ + 1].toNat : Int) = 61) := by
      rintro ⟨_, h, _⟩
      omega
    exact ⟨⟨4, _, 0, at_, (at_ : Int) + 1, _, rfl, fun _ => HS1.out hno⟩, (Keeps.set4 ((hkw.setCell (.inr (Nat.le_refl _)) _).setCell (.inr (Nat.le_refl _)) _) (Nat.le_refl _) _ _ _ _).drew⟩

set_option maxHeartbeats 4000000 in
set_option maxRecDepth 100000 in
theorem one_other (s : ByteArray) (at_ : Nat) (w : World) (hG : Glob w) (hat : at_ < s.size) (hl : isLetter s[at_] = false) (hg : isDigit s[at_] = false) (h39 : s[at_] ≠ 39) (hsg : isSign s[at_] = false) :
    Calls Tryz.prog 55 #[.string s, .int .i64 (at_ : Int)] w fun e w' => OneOut s at_ True e ∧ Keeps [] w w' := by
  have hk0 := Keeps.refl [] w
  have b0 : (0 : Int) ≤ (at_ : Int) := by omega
  have b1 : (at_ : Int) < (s.size : Int) := by omega
  have HG := Lib.hid hG
  have HC := fun w h => class_any s[at_] w h
  have hno : lexOne (s.data.toList.drop at_) = none := by
    have hd : s.data.toList.drop at_ = s[at_] :: s.data.toList.drop (at_ + 1) := List.drop_eq_getElem_cons (by exact hat)
    rw [hd, lexOne, if_neg (by simp [hl]), if_neg (by simp [hg]), if_neg h39, if_neg (by simp [hsg])]
  have HN := Lib.hid hno
  have hc2 := cls_letter s[at_]
  have hc3 := cls_digit s[at_]
  have hc4 := cls_quote s[at_]
  have hc5 := cls_sign s[at_]
  rw [hl] at hc2
  rw [hg] at hc3
  rw [hsg] at hc5
  have e39 : (s[at_] == 39) = false := by simp [h39]
  rw [e39] at hc4
  clear hG hl hg h39 hsg hno e39
  generalize clsI s[at_] = z at *
  have HC := fun w h => Lib.hid (HC w h)
  go_enter Tryz.func55, Tryz.ntmps55
  go_wp2_with (go_at_call 82; refine (HC _ (HG.out.tab.keep (hk0.alloc _) (by simp))).out.mono ?_; rintro e w' ⟨rfl, rfl⟩)
  refine ret_row2 rfl w.heap.size _ _ _ _ rfl (heap_alloc_new _ _) Tryz.underlying91 rfl (by kernel_rfl) rfl ?_
  exact ⟨⟨0, ⟨#[]⟩, 0, at_, 0, false, rfl, fun _ => OneIs.of_none HN.out 0 _ 0 at_ 0 rfl⟩, hk0.alloc _⟩

theorem one_any (s : ByteArray) (at_ : Nat) (w : World) (hG : Glob w) (hat : at_ < s.size) (hs : s.size ≤ 281474976710656) :
    Calls Tryz.prog 55 #[.string s, .int .i64 (at_ : Int)] w fun e w' => OneOut s at_ True e ∧ Keeps [] w w' := by
  cases hl : isLetter s[at_] with
  | true => exact one_letter s at_ w hG hat hs hl
  | false =>
    cases hd : isDigit s[at_] with
    | true =>
      by_cases h : numVal ((s.data.toList.drop at_).take (spanN isDigit (s.data.toList.drop at_))) ≤ 9223372036854775807
      · exact one_digit_fit s at_ w hG hat hs hl hd h
      · exact one_digit_over s at_ w hG hat hs hl hd h
    | false =>
      by_cases h39 : s[at_] = 39
      · exact one_text s at_ w hG hat hs h39
      · cases hsg : isSign s[at_] with
        | true => exact one_sign s at_ w hG hat hs hsg
        | false => exact one_other s at_ w hG hat hl hd h39 hsg

end Go.Proofs.YtefcmijobbgpbaaGreatDoor

namespace Go.Proofs.YtefcmijobbgpbaaGreatDoor
open Go.RowKit

abbrev Toks := Except (Nat × Int) (List (Tok × Nat))

def pre (xs : List (Tok × Nat)) : Toks → Toks
  | .ok ys => .ok (xs ++ ys)
  | .error e => .error e

theorem pre_pre (xs ys : List (Tok × Nat)) (r : Toks) : pre xs (pre ys r) = pre (xs ++ ys) r := by cases r <;> simp [pre]

/-- All tokens of a text. -/
def toksOf (s : ByteArray) : Toks := lexAll (s.size + 1) s.data.toList 0 0

/-- The tokens ahead of a place are these. -/
def LexAt (s : ByteArray) (p : Nat) (xs : List (Tok × Nat)) : Prop :=
  p ≤ s.size ∧ ∃ fuel, s.size - p < fuel ∧ toksOf s = pre xs (lexAll fuel (s.data.toList.drop p) p xs.length)

theorem LexAt.start (s : ByteArray) : LexAt s 0 [] := by
  refine ⟨Nat.zero_le _, s.size + 1, by omega, ?_⟩
  unfold toksOf
  cases h : lexAll (s.size + 1) s.data.toList 0 0 <;> simp [pre, h]

/-- The place behind the blanks. -/
def past (s : ByteArray) (p : Nat) : Nat := p + spanN isBlank (s.data.toList.drop p)

theorem past_le {s : ByteArray} {p : Nat} (h : p ≤ s.size) : p ≤ past s p ∧ past s p ≤ s.size := by
  have h1 := spanN_le isBlank (s.data.toList.drop p)
  have h2 : (s.data.toList.drop p).length = s.size - p := by rw [List.length_drop]; rfl
  unfold past
  omega

theorem LexAt.stop {s : ByteArray} {p : Nat} {xs : List (Tok × Nat)} (h : LexAt s p xs) (hp : ¬ past s p < s.size) : toksOf s = .ok xs := by
  obtain ⟨hps, fuel, hf, he⟩ := h
  obtain ⟨fuel, rfl⟩ : ∃ m, fuel = m + 1 := ⟨fuel - 1, by omega⟩
  have hnil : (s.data.toList.drop p).drop (spanN isBlank (s.data.toList.drop p)) = [] := by
    rw [List.drop_drop]
    exact List.drop_eq_nil_of_le (by unfold past at hp; have : s.data.toList.length = s.size := rfl; omega)
  rw [he, lexAll, if_pos hnil]
  simp [pre]

theorem LexAt.fail {s : ByteArray} {p : Nat} {xs : List (Tok × Nat)} (h : LexAt s p xs) (hp : past s p < s.size) (hn : lexOne (s.data.toList.drop (past s p)) = none) : toksOf s = .error (past s p, 100) := by
  obtain ⟨hps, fuel, hf, he⟩ := h
  obtain ⟨fuel, rfl⟩ : ∃ m, fuel = m + 1 := ⟨fuel - 1, by omega⟩
  have hd : (s.data.toList.drop p).drop (spanN isBlank (s.data.toList.drop p)) = s.data.toList.drop (past s p) := by rw [List.drop_drop]; rfl
  have hne : s.data.toList.drop (past s p) ≠ [] := by
    intro h
    have := congrArg List.length h
    rw [List.length_drop] at this
    have h3 : s.data.toList.length = s.size := rfl
    simp at this
    omega
  rw [he, lexAll, hd, if_neg hne, hn]
  rfl

theorem LexAt.full {s : ByteArray} {p : Nat} {xs : List (Tok × Nat)} {t : Tok} {k : Nat} (h : LexAt s p xs) (_hp : past s p < s.size) (hn : lexOne (s.data.toList.drop (past s p)) = some (t, k)) (h4 : xs.length = 4096) : toksOf s = .error (past s p, 2) := by
  obtain ⟨hps, fuel, hf, he⟩ := h
  obtain ⟨fuel, rfl⟩ : ∃ m, fuel = m + 1 := ⟨fuel - 1, by omega⟩
  have hd : (s.data.toList.drop p).drop (spanN isBlank (s.data.toList.drop p)) = s.data.toList.drop (past s p) := by rw [List.drop_drop]; rfl
  have hne : s.data.toList.drop (past s p) ≠ [] := by
    intro h
    rw [h] at hn
    cases hn
  rw [he, lexAll, hd, if_neg hne, hn]
  simp only [h4, if_true]
  rfl

theorem LexAt.next {s : ByteArray} {p : Nat} {xs : List (Tok × Nat)} {t : Tok} {k : Nat} (h : LexAt s p xs) (hp : past s p < s.size) (hn : lexOne (s.data.toList.drop (past s p)) = some (t, k)) (h4 : xs.length ≠ 4096) :
    LexAt s (past s p + k) (xs ++ [(t, past s p)]) ∧ 1 ≤ k := by
  obtain ⟨hps, fuel, hf, he⟩ := h
  obtain ⟨fuel, rfl⟩ : ∃ m, fuel = m + 1 := ⟨fuel - 1, by omega⟩
  have hk := lexOne_len hn
  have h3 : s.data.toList.length = s.size := rfl
  rw [List.length_drop, h3] at hk
  have hpp := past_le hps
  refine ⟨⟨by omega, fuel, by omega, ?_⟩, hk.1⟩
  have hd : (s.data.toList.drop p).drop (spanN isBlank (s.data.toList.drop p)) = s.data.toList.drop (past s p) := by rw [List.drop_drop]; rfl
  have hne : s.data.toList.drop (past s p) ≠ [] := by
    intro h
    rw [h] at hn
    cases hn
  have e0 : p + spanN isBlank (s.data.toList.drop p) = past s p := rfl
  rw [he, lexAll, hd, if_neg hne, hn]
  simp only [h4, if_false, e0, List.drop_drop, List.length_append, List.length_singleton]
  cases lexAll fuel (s.data.toList.drop (past s p + k)) (past s p + k) (xs.length + 1) <;> simp [pre]

/-- The cells of tokens. -/
def tokCells (xs : List (Tok × Nat)) : List Value := xs.flatMap fun p => [.int .i64 p.1.kind, .string ⟨p.1.s.toArray⟩, .int .i64 p.1.n, .int .i64 p.2]

theorem tokCells_snoc (xs : List (Tok × Nat)) (t : Tok) (a : Nat) : tokCells (xs ++ [(t, a)]) = tokCells xs ++ [.int .i64 t.kind, .string ⟨t.s.toArray⟩, .int .i64 t.n, .int .i64 a] := by simp [tokCells]

/-- A return of a value and a struct that lies in a block. -/
theorem ret_val_row {P : Program} {fn : Func} {R : Ending → World → Prop} {a : Act} {w : World} {p u : Tmp} {ty : TypeId} (h : fn.results = #[.tmp u, .cell p ty]) (g : Nat) (t : TypeId) (cs : Array Value) (fr : Nat × Nat) (d : TypeDesc)
    (hp : a.tmps.getD p undef = .pointer (some ⟨g, 0, none⟩)) (hg : w.heap[g]? = some (.cells cs t fr))
    (hu : P.underlying ty = some d) (hd : (match d with | .struct _ | .array _ _ => true | _ => false) = true) (hi : (P.info? ty).map (·.size) = some cs.size) (hdf : a.defers = [])
    (hR : R (.returned (.tuple #[a.tmps.getD u undef, .agg cs])) w) : bodyPost P fn R .ret a w := by
  refine bodyPost_ret (v := .tuple #[a.tmps.getD u undef, .agg cs]) ?_ hdf hR
  have hp' : a.tmps[p]?.getD undef = .pointer (some ⟨g, 0, none⟩) := by simpa using hp
  simp [results, h, hp', asAddr, run_loadVar_row w g t ty cs fr d hg hu hd hi]

theorem blk_two {w : World} {B : Nat} {a b : Value} {t : TypeId} (h : w.heap[B]? = some (.cells #[a, b] t)) :
    w.cell? ⟨B, 0, none⟩ = some a ∧ w.cell? ⟨B, 1, none⟩ = some b ∧ w.frozen? ⟨B, 0, none⟩ = false ∧ w.frozen? ⟨B, 1, none⟩ = false := by
  simp [World.cell?, World.frozen?, h]
theorem set2_block {w : World} {B : Nat} {a b : Value} {t : TypeId} (h : w.heap[B]? = some (.cells #[a, b] t)) (p q : Value) :
    ((w.setCell ⟨B, 0, none⟩ p).setCell ⟨B, 1, none⟩ q).heap[B]? = some (.cells #[p, q] t (0, 0)) := by
  rw [heap_set_self (heap_set_self h)]
  rfl
theorem Keeps.set2 {S : List Nat} {a w : World} (h : Keeps S a w) {B : Nat} (hB : a.heap.size ≤ B) (p q : Value) :
    Keeps S a ((w.setCell ⟨B, 0, none⟩ p).setCell ⟨B, 1, none⟩ q) := (h.setCell (.inr hB) _).setCell (.inr hB) _

/-- What Tokens answers. -/
def TokensOut (w : World) (s : ByteArray) (e : Ending) (w' : World) : Prop :=
  match (if 262144 < s.size then .error (0, 2) else toksOf s) with
  | .ok xs => ∃ ao cp, e = .returned (.tuple #[.slice ao (xs.length + 1) cp, .agg #[.int .i64 0, .int .i64 0]]) ∧ w'.ownsRow (w.heap.size + 1) 91 4 (.slice ao (xs.length + 1) cp) (xs.length + 1) (tokCells xs ++ [.int .i64 0, .string ⟨#[]⟩, .int .i64 0, .int .i64 s.size])
  | .error (p, c) => e = .returned (.tuple #[.slice none 0 0, .agg #[.int .i64 (p : Nat), .int .i64 c]])

theorem TokensOut.long {w w' : World} {s : ByteArray} {e : Ending} (h : 262144 < s.size) (he : e = .returned (.tuple #[.slice none 0 0, .agg #[.int .i64 0, .int .i64 2]])) : TokensOut w s e w' := by
  unfold TokensOut
  rw [if_pos h]
  exact he
theorem TokensOut.bad {w w' : World} {s : ByteArray} {e : Ending} {p : Nat} {c : Int} (h : ¬ 262144 < s.size) (hT : toksOf s = .error (p, c)) (he : e = .returned (.tuple #[.slice none 0 0, .agg #[.int .i64 (p : Nat), .int .i64 c]])) : TokensOut w s e w' := by
  unfold TokensOut
  rw [if_neg h, hT]
  exact he
theorem TokensOut.good {w w' : World} {s : ByteArray} {e : Ending} {xs : List (Tok × Nat)} (h : ¬ 262144 < s.size) (hT : toksOf s = .ok xs) {ao : Option Addr} {cp : Nat} (he : e = .returned (.tuple #[.slice ao (xs.length + 1) cp, .agg #[.int .i64 0, .int .i64 0]]))
    (ho : w'.ownsRow (w.heap.size + 1) 91 4 (.slice ao (xs.length + 1) cp) (xs.length + 1) (tokCells xs ++ [.int .i64 0, .string ⟨#[]⟩, .int .i64 0, .int .i64 s.size])) : TokensOut w s e w' := by
  unfold TokensOut
  rw [if_neg h, hT]
  exact ⟨ao, cp, he, ho⟩

end Go.Proofs.YtefcmijobbgpbaaGreatDoor

namespace Go.Proofs.YtefcmijobbgpbaaGreatDoor
open Go.RowKit

theorem rtTok : RowTy Tryz.prog 73 91 4 40 := ⟨by kernel_rfl, by kernel_rfl, by decide⟩

theorem own_ge {w : World} {base e size : Nat} {v : Value} {n : Nat} {xs : List Value} (h : w.ownsRow base e size v n xs) {b : Nat} (hb : v.ownBlock = some b) : base ≤ b := by
  rcases h.2 with ⟨rfl, _⟩ | ⟨g, cap, cur, rfl, hg, _⟩
  · cases hb
  · simp only [Value.ownBlock, Option.some.injEq] at hb
    omega

theorem own_set_two {w : World} {base e size : Nat} {v : Value} {n : Nat} {xs : List Value} (h : w.ownsRow base e size v n xs) {B : Nat} (p q : Value) (hne : v.ownBlock ≠ some B) : ((w.setCell ⟨B, 0, none⟩ p).setCell ⟨B, 1, none⟩ q).ownsRow base e size v n xs :=
  own_set_other (own_set_other h p hne) q hne

theorem alloc_old {w : World} {B : Nat} {o : Obj} (h : w.heap[B]? = some o) (o' : Obj) : (w.alloc o').heap[B]? = some o := (Keeps.alloc (Keeps.refl [] _) o').heap h (by simp)

theorem run_past (s : ByteArray) (p k B : Nat) (w : World) (hT : Tab w) (hat : p + k ≤ s.size) (hs : s.size ≤ 4611686018427387904) (hB : w.heap[B]? = some (.cells #[.int .u8 1] 5 (0, 0))) :
    Calls Tryz.prog 54 #[.string s, .int .i64 ((p : Int) + (k : Int)), .slice (some ⟨B, 0, none⟩) 1 1] w fun e w' => e = .returned (.int .i64 ((past s (p + k) : Nat) : Int)) ∧ Keeps [] w w' := by
  have h := run_blank s (p + k) B w hT hat hs hB
  have e : ((p + k : Nat) : Int) = (p : Int) + (k : Int) := by omega
  rw [e] at h
  exact h

theorem blk_after {wr w3 : World} {B : Nat} {o o' : Obj} {row : Option Nat} (hb : wr.heap[B]? = some o) (hg : (wr.alloc o').grownBy w3 row) (hne : row ≠ some B) : w3.heap[B]? = some o := by
  have hlt := heap_lt hb
  rw [hg.block B (by simp; omega) (fun h => hne h.symm)]
  exact (Keeps.alloc (Keeps.refl [] _) o').heap hb (by simp)

theorem OneOut.is_none {s : ByteArray} {at_ : Nat} {e : Ending} (h : OneOut s at_ True e) (hl : lexOne (s.data.toList.drop at_) = none) :
    ∃ (a : Int) (b : ByteArray) (n d E : Int), e = .returned (.tuple #[.agg #[.int .i64 a, .string b, .int .i64 n, .int .i64 d], .int .i64 E, .bool false]) := by
  obtain ⟨a, b, n, d, E, o, rfl, h2⟩ := h
  have h3 := h2 trivial
  unfold OneIs at h3
  rw [hl] at h3
  obtain ⟨a', b', n', d', E', h4⟩ := h3
  exact ⟨a', b', n', d', E', by rw [h4]; rfl⟩
theorem OneOut.is_some {s : ByteArray} {at_ : Nat} {e : Ending} (h : OneOut s at_ True e) {t : Tok} {k : Nat} (hl : lexOne (s.data.toList.drop at_) = some (t, k)) :
    e = .returned (.tuple #[.agg #[.int .i64 t.kind, .string ⟨t.s.toArray⟩, .int .i64 t.n, .int .i64 at_], .int .i64 ((at_ + k : Nat) : Int), .bool true]) := by
  obtain ⟨a, b, n, d, E, o, rfl, h2⟩ := h
  have h3 := h2 trivial
  unfold OneIs at h3
  rw [hl] at h3
  rw [h3]
  rfl

set_option maxHeartbeats 4000000 in
set_option maxRecDepth 100000 in
theorem tokens_any (s : ByteArray) (w : World) (hG : Glob w) : 
    Calls Tryz.prog 38 #[.string s] w fun e w' => TokensOut w s e w' ∧ Keeps [] w w' := by
  have hk0 := Keeps.refl [] w
  have HG := Lib.hid hG
  clear hG
  go_enter Tryz.func38, Tryz.ntmps38
  by_cases hlong : 262144 < s.size
  · have d1 : decide ((s.size : Int) > 262144) = true := by simp; omega
    go_wp2_with fail
    refine ret_val_row rfl w.heap.size _ _ _ _ rfl (heap_alloc_new _ _) Tryz.underlying49 rfl (by kernel_rfl) rfl ?_
    exact ⟨.long hlong rfl, hk0.alloc _⟩
  · have d1 : decide ((s.size : Int) > 262144) = false := by simp; omega
    go_wp2_with fail
    have hB0 := (Keeps.alloc (Keeps.refl [] _) (.cells #[.int .u8 1] 5 (0, 0))).heap (heap_alloc_new w (.cells #[.int .i64 0, .int .i64 0] 49 (0, 0))) (by simp)
    have hB1 := heap_alloc2_new w (.cells #[.int .i64 0, .int .i64 0] 49 (0, 0)) (.cells #[.int .u8 1] 5 (0, 0))
    have hk1 := (hk0.alloc (.cells #[.int .i64 0, .int .i64 0] 49 (0, 0))).alloc (.cells #[.int .u8 1] 5 (0, 0))
    generalize ((w.alloc (.cells #[.int .i64 0, .int .i64 0] 49 (0, 0))).alloc (.cells #[.int .u8 1] 5 (0, 0))) = w1 at *
    refine (run_blank s 0 (w.heap.size + 1) w1 (HG.out.keep hk1).tab (Nat.zero_le _) (by omega) hB1).mono ?_
    rintro e w2 ⟨rfl, hk2⟩
    have hb2 := hk2.heap hB0 (by simp)
    have hkw := hk1.then hk2
    clear hk2 hB0 hB1 hk1
    go_wp2_with fail
    go_loopw [4, 5] (fun o i wr => ∃ (p : Nat) (xs : List (Tok × Nat)) (ao : Option Addr) (cp : Nat), i = .int .i64 (past s p : Nat) ∧ o = .slice ao xs.length cp ∧ xs.length ≤ 4096 ∧ Hid (LexAt s p xs) ∧ Hid (wr.ownsRow (w.heap.size + 1) 91 4 o xs.length (tokCells xs)) ∧ Hid (wr.heap[w.heap.size]? = some (.cells #[.int .i64 0, .int .i64 0] 49 (0, 0))) ∧ Keeps [] w wr) (fun _ i _ => s.size - (intOf i).toNat)
    case atStart => exact ⟨0, [], none, 0, by simp [past], rfl, by simp, Lib.hid (LexAt.start s), Lib.hid ⟨rfl, .inl ⟨rfl, rfl⟩⟩, Lib.hid hb2, hkw⟩
    case round =>
      clear hkw hb2
      obtain ⟨p, xs, ao, cp, rfl, rfl, hn4, hL, hown, hb, hk⟩ := hrel
      have hps : p ≤ s.size := hL.out.1
      obtain ⟨hpp, hp2⟩ := past_le hps
      by_cases hlt : past s p < s.size
      · have d2 : decide (((past s p : Nat) : Int) < (s.size : Int)) = true := by simp; omega
        cases hlex : lexOne (s.data.toList.drop (past s p)) with
        | none =>
          have hT := Lib.hid (hL.out.fail hlt hlex)
          have HOne := fun w h => Lib.hid ((one_any s (past s p) w h hlt (by omega)).mono fun e w' ⟨h1, h2⟩ => (⟨h1.is_none hlex, h2⟩ : _ ∧ Keeps [] w w'))
          clear hL hps hpp hp2 hlex
          generalize past s p = pp at *
          go_wp2_with (go_at_call 55; refine (HOne _ (HG.out.keep hk)).out.mono ?_; rintro e w2 ⟨⟨a, b, n, d, E, rfl⟩, hk2⟩; have hlt2 := heap_lt (hk2.heap hb.out (by simp)); obtain ⟨c0, c1, z0, z1⟩ := blk_two (hk2.heap hb.out (by simp)))
          refine ret_val_row rfl w.heap.size _ _ _ _ rfl (alloc_old (set2_block (hk2.heap hb.out (by simp)) _ _) _) Tryz.underlying49 rfl (by kernel_rfl) rfl ?_
          exact ⟨.bad hlong hT.out rfl, (Keeps.set2 (hk.then hk2) (Nat.le_refl _) _ _).alloc _⟩
        | some q =>
          obtain ⟨t, k⟩ := q
          have HOne := fun w h => Lib.hid ((one_any s (past s p) w h hlt (by omega)).mono fun e w' ⟨h1, h2⟩ => (⟨h1.is_some hlex, h2⟩ : _ ∧ Keeps [] w w'))
          by_cases h4 : xs.length = 4096
          · have hT := Lib.hid (hL.out.full hlt hlex h4)
            clear hL hps hpp hp2 hlex
            generalize past s p = pp at *
            go_wp2_with (go_at_call 55; refine (HOne _ (HG.out.keep hk)).out.mono ?_; rintro e w2 ⟨rfl, hk2⟩; have hlt2 := heap_lt (hk2.heap hb.out (by simp)); obtain ⟨c0, c1, z0, z1⟩ := blk_two (hk2.heap hb.out (by simp)))
            refine ret_val_row rfl w.heap.size _ _ _ _ rfl (alloc_old (set2_block (hk2.heap hb.out (by simp)) _ _) _) Tryz.underlying49 rfl (by kernel_rfl) rfl ?_
            exact ⟨.bad hlong hT.out rfl, (Keeps.set2 (hk.then hk2) (Nat.le_refl _) _ _).alloc _⟩
          · obtain ⟨hnext, hk1⟩ := hL.out.next hlt hlex h4
            have hpk : past s p + k ≤ s.size := hnext.1
            have hq := past_le hpk
            have HRun := fun w B h1 h2 => Lib.hid (run_past s (past s p) k B w h1 hpk (by omega) h2)
            have HN := Lib.hid hnext
            have hge : ∀ b, (Value.slice ao xs.length cp).ownBlock = some b → w.heap.size + 1 ≤ b := fun b h => own_ge hown.out h
            have HGE := Lib.hid hge
            clear hnext hL hps hpp hp2 hlex hge
            have d3 : (((xs.length : Nat) : Int) == 4096) = false := by rw [beq_eq_false_iff_ne]; omega
            generalize hpe2 : past s p = pp at *
            go_wp2_with (first
              | (go_at_call 55; refine (HOne _ (HG.out.keep hk)).out.mono ?_; rintro e w2 ⟨rfl, hk2⟩; have hlt2 := heap_lt (hk2.heap hb.out (by simp)))
              | (at_builtin; refine list_append_any rtTok (by rfl) _ _ (by rfl) (w.heap.size + 1) _ xs.length (tokCells xs) (by rfl) (((own_kept hown.out hk2 (by simp)).alloc _).alloc _) _ 1 [.int .i64 t.kind, .string ⟨t.s.toArray⟩, .int .i64 t.n, .int .i64 (pp : Nat)] (by rfl) (SlC.of_block (cs := #[.int .i64 t.kind, .string ⟨t.s.toArray⟩, .int .i64 t.n, .int .i64 (pp : Nat)]) (t := 91) (fr := (0, 0)) (heap_alloc2_new _ _ _) (by rfl)) (by simp [Value.oneCell']) (by omega) (by unfold maxLen; omega) (by simp; omega) ?_; intro ao3 cp3 w3 hown3 hgrow3 hat3 hnil3; have hb3 := blk_after (alloc_old (hk2.heap hb.out (by simp)) _) hgrow3 (fun h => by have := HGE.out _ h; omega); have HO3 := Lib.hid hown3; clear hown3; have HB3 := Lib.hid hb3; clear hb3; have hk3 : Keeps [] w w3 := (((hk.then hk2).alloc _).alloc _).grown hgrow3 (fun k h => .inr (by have := HGE.out _ h; omega)))
              | (go_at_call 54; refine (HRun _ _ (HG.out.keep (hk3.alloc _)).tab (heap_alloc_new _ _)).out.mono ?_; rintro e w4 ⟨rfl, hk4⟩))
            refine ⟨⟨pp + k, xs ++ [(t, pp)], ao3, cp3, rfl, by simp, by simp; omega, HN, Lib.hid ?_, Lib.hid (hk4.heap (alloc_old HB3.out _) (by simp)), (hk3.alloc _).then hk4⟩, by simp only [intOf]; omega⟩
            rw [tokCells_snoc]
            simp only [List.length_append, List.length_singleton]
            exact own_kept (HO3.out.alloc _) hk4 (by simp)
      · have d2 : decide (((past s p : Nat) : Int) < (s.size : Int)) = false := by simp; omega
        have hT := Lib.hid (hL.out.stop hlt)
        clear hL hps hpp hp2
        generalize past s p = pp at *
        have hB := hb.out
        have hlt2 := heap_lt hB
        have hge : ∀ b, (Value.slice ao xs.length cp).ownBlock = some b → w.heap.size + 1 ≤ b := fun b h => own_ge hown.out h
        have hbase : ∀ o, w.heap.size + 1 ≤ (wr.alloc o).heap.size := fun o => by simp; omega
        have HB := Lib.hid hB
        have HGE := Lib.hid hge
        clear hB hge hb
        go_wp2_with (at_builtin; refine list_append_any rtTok (by rfl) _ _ (by rfl) (w.heap.size + 1) _ xs.length (tokCells xs) (by rfl) (hown.out.alloc _) _ 1 [.int .i64 0, .string ⟨#[]⟩, .int .i64 0, .int .i64 s.size] (by rfl) (SlC.of_block (cs := #[.int .i64 0, .string ⟨#[]⟩, .int .i64 0, .int .i64 s.size]) (t := 91) (fr := (0, 0)) (heap_alloc_new _ _) (by rfl)) (by simp [Value.oneCell']) (by omega) (by unfold maxLen; omega) (hbase _) ?_; intro ao3 cp3 w3 hown3 hgrow3 hat3 hnil3; have hb3 := blk_after HB.out hgrow3 (fun h => by have := HGE.out _ h; omega); obtain ⟨c0, c1, z0, z1⟩ := blk_two hb3; have HO3 := Lib.hid hown3; clear hown3)
        refine ret_val_row rfl w.heap.size _ _ _ _ rfl (set2_block hb3 _ _) Tryz.underlying49 rfl (by kernel_rfl) rfl ?_
        have hk3 : Keeps [] w w3 := (hk.alloc _).grown hgrow3 (fun k h => .inr (by have := HGE.out _ h; omega))
        exact ⟨.good hlong hT.out rfl (own_set_two HO3.out _ _ (fun h => by have := own_ge HO3.out h; omega)), Keeps.set2 hk3 (Nat.le_refl _) _ _⟩

end Go.Proofs.YtefcmijobbgpbaaGreatDoor
