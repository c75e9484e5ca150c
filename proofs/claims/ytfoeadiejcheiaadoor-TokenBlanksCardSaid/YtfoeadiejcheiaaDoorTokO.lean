/- Contract of strings.IndexAny at a quote and a line feed, any bytes. Conditions: those of each theorem. -/
import Derived.Test.YtfoeadiejcheiaaDoorTokN
namespace Go.Proofs.YtfoeadiejcheiaaDoor
open Go.RowKit

/-- The place of the first quote or line feed; -1: there is none. -/
def quoteAt (s : ByteArray) : Int := if spanN inText s.data.toList < s.size then (spanN inText s.data.toList : Int) else -1

theorem quoteAt_hit {s : ByteArray} {i : Nat} (hi : i < s.size) (hn : spanN inText s.data.toList = i + spanN inText (s.data.toList.drop i)) (h : inText s[i] = false) : quoteAt s = i := by
  have hsp := span_at (p := inText) (l := s.data.toList) (j := i) hi
  have hjc : s.data.toList[i] = s[i] := rfl
  rw [hjc, h, if_neg (by simp)] at hsp
  unfold quoteAt
  rw [hn, hsp, Nat.add_zero, if_pos hi]

theorem quoteAt_none {s : ByteArray} {i : Nat} (hi : s.size ≤ i) (hn : spanN inText s.data.toList = i + spanN inText (s.data.toList.drop i)) : quoteAt s = -1 := by
  unfold quoteAt
  rw [if_neg (by omega)]

theorem span_skip {s : ByteArray} {k : Nat} : ∀ (n i : Nat), k = i + n → k ≤ s.size → (∀ j (hj : j < s.size), i ≤ j → j < k → inText s[j] = true) → i + spanN inText (s.data.toList.drop i) = k + spanN inText (s.data.toList.drop k)
  | 0, i, hk, _, _ => by subst hk; rfl
  | n + 1, i, hk, hs, h => by
    have hsp := span_at (p := inText) (l := s.data.toList) (j := i) (show i < s.data.toList.length by have : s.data.toList.length = s.size := rfl; omega)
    have hjc : ∀ h : i < s.size, s.data.toList[i]'h = s[i] := fun _ => rfl
    rw [hjc (by omega), h i (by omega) (Nat.le_refl _) (by omega), if_pos rfl] at hsp
    have ih := span_skip (s := s) (k := k) n (i + 1) (by omega) hs (fun j hj h1 h2 => h j hj (by omega) h2)
    omega

theorem inText_high {c : UInt8} (h : 128 ≤ c.toNat) : inText c = true := by
  simp only [inText, Bool.not_eq_true', Bool.or_eq_false_iff, beq_eq_false_iff_ne]
  exact ⟨fun e => by rw [e] at h; exact absurd h (by decide), fun e => by rw [e] at h; exact absurd h (by decide)⟩

def quotes : ByteArray := ⟨#[39, 10]⟩

theorem quotes_byte (c : UInt8) : decide (0 ≤ Lib.indexByte quotes.data.toList c) = !inText c := by
  have := all_bytes (p := fun c => decide (0 ≤ Lib.indexByte quotes.data.toList c) == !inText c) (by decide +kernel) c
  simpa using this

set_option maxHeartbeats 4000000 in
set_option maxRecDepth 1000000 in
theorem indexAny_short (s cs : ByteArray) (hcs : cs = quotes) (w : World) (h8 : s.size ≤ 8) :
    Calls Tryd.prog 26 #[.string s, .string cs] w fun e w' => e = .returned (.int .i64 (quoteAt s)) ∧ Keeps [] w w' := by
  have hk0 := Keeps.refl [] w
  have hc2 : cs.size = 2 := by rw [hcs]; rfl
  have hemp : cs.toList.isEmpty = false := not_empty (by omega)
  have hasc : ∀ j (hj : j < cs.size), cs[j].toNat < 128 := by
    subst hcs
    intro j hj
    have : ∀ j : Fin 2, (quotes[j.val]'(by exact j.isLt)).toNat < 128 := by decide
    exact this ⟨j, hj⟩
  have HC := Lib.hid hcs
  have HR := fun (r : Int) w (h0 : 128 ≤ r) (h1 : r ≤ 1114111) => Lib.hid (indexRune_high cs hc2 hasc r w h0 h1)
  have HA := fun (r : Int) w (h0 : 0 ≤ r) (h1 : r < 128) => Lib.hid (Tryd.strings_IndexRune_ascii cs r w h0 h1)
  have HU := fun w => Tryd.strings_shouldUseASCIISet (s.size : Int) w
  have h8z : decide ((8 : Int) < (s.size : Int)) = false := decide_eq_false (by omega)
  rw [h8z] at HU
  have HU := fun w => Lib.hid (HU w)
  clear hcs hasc
  go_enter Tryd.func26, Tryd.ntmps26
  go_wp2_with (go_at_call 40; refine (HU _).out.mono ?_; rintro e w' ⟨rfl, rfl⟩)
  go_loopg [9, 10] s.size (fun g _ _ wx => ∃ i : Nat, i + g = s.size ∧ Hid (wx.heap[w'.heap.size]? = some (.stringIter s i) ∧ spanN inText s.data.toList = i + spanN inText (s.data.toList.drop i)) ∧ Keeps [] w' wx)
  case atStart => exact ⟨0, by omega, Lib.hid ⟨World.iter_heap _ _ _, by simp⟩, hk0.alloc _⟩
  case round =>
    obtain ⟨i, hig, hh, hk⟩ := hrel
    obtain ⟨hb, hn⟩ := hh.out
    clear hh
    have hB := heap_lt hb
    cases gk with
    | zero =>
      have hnx := fun ty => run_next_fin (P := Tryd.prog) hb ty (by omega)
      have HQ := Lib.hid (quoteAt_none (i := i) (by omega) hn)
      clear hb hn
      go_wp2_with fail
      go_returns
      exact ⟨by rw [HQ.out]; rfl, hk⟩
    | succ g =>
      have hi : i < s.size := by omega
      have hnx := fun ty => run_next_gen (P := Tryd.prog) hb ty hi
      by_cases h128 : s[i].toNat < 128
      · rw [decode_ascii s i hi h128] at hnx
        have HQ := Lib.hid (quoteAt_hit hi hn)
        have HS : Hid (inText s[i] = true → spanN inText s.data.toList = i + 1 + spanN inText (s.data.toList.drop (i + 1))) := Lib.hid fun h => by
          have hone : ∀ j (hj : j < s.size), i ≤ j → j < i + 1 → inText s[j] = true := by
            intro j hj h1 h2
            have e : j = i := by omega
            subst e
            exact h
          rw [hn, span_skip (k := i + 1) 1 i rfl (by omega) hone]
        have hI := HA (s[i].toNat : Int) (stepped wr w'.heap.size s (i + 1)) (by omega) (by omega)
        have hqb : decide (0 ≤ Lib.indexByte cs.data.toList s[i]) = !inText s[i] := by rw [HC.out]; exact quotes_byte _
        have hback : ((s[i].toNat : Int)).toNat.toUInt8 = s[i] := by simp
        rw [hback] at hI
        have hst := Lib.hid (stepped_at (s := s) (pos := i + 1) hB)
        have hks := hk.stepped (Nat.le_refl w'.heap.size) s (i + 1)
        clear hb hn hback
        generalize Lib.indexByte cs.data.toList s[i] = r at hI hqb
        cases hin : inText s[i]
        · rw [hin] at hqb
          have hQ := HQ.out hin
          have HQ2 := Lib.hid hQ
          clear HQ HS hQ hin HA HR
          go_wp2_with (go_at_call 39; refine hI.out.mono ?_; rintro e w2 ⟨rfl, rfl⟩)
          go_returns
          exact ⟨by rw [HQ2.out]; rfl, hks⟩
        · rw [hin] at hqb
          have hQ := HS.out hin
          have HQ2 := Lib.hid hQ
          clear HQ HS hQ hin HA HR
          go_wp2_with (go_at_call 39; refine hI.out.mono ?_; rintro e w2 ⟨rfl, rfl⟩)
          go_roundg g
          case measure => omega
          case rel => exact ⟨i + 1, by omega, Lib.hid ⟨hst.out, HQ2.out⟩, hks⟩
      · obtain ⟨r0, r1, r2, r3, r4⟩ := decode_high s i hi (by omega)
        have hst := Lib.hid (stepped_at (s := s) (pos := i + (Utf8.decode s i).2) hB)
        have hks := hk.stepped (Nat.le_refl w'.heap.size) s (i + (Utf8.decode s i).2)
        have HN := Lib.hid (hn.trans (span_skip (k := i + (Utf8.decode s i).2) (Utf8.decode s i).2 i rfl r3 (fun j hj h1 h2 => inText_high (r4 j hj h1 h2))))
        have hI := HR ((Utf8.decode s i).1 : Int) (stepped wr w'.heap.size s (i + (Utf8.decode s i).2)) (by omega) (by omega)
        clear r4 hb hn HA HR
        generalize (Utf8.decode s i).1 = rr at *
        generalize (Utf8.decode s i).2 = kk at *
        have hm1 : decide ((0 : Int) ≤ -1) = false := rfl
        go_wp2_with (go_at_call 39; refine hI.out.mono ?_; rintro e w2 ⟨rfl, hk2⟩)
        go_roundg (s.size - (i + kk))
        case measure => omega
        case rel => exact ⟨i + kk, by omega, Lib.hid ⟨hk2.heap hst.out (by simp), HN.out⟩, hks.then hk2⟩

set_option maxHeartbeats 4000000 in
set_option maxRecDepth 1000000 in
theorem indexAny_long (s cs : ByteArray) (hcs : cs = quotes) (w : World) (h8 : 8 < s.size) (hs : s.size ≤ 4611686018427387904) :
    Calls Tryd.prog 26 #[.string s, .string cs] w fun e w' => e = .returned (.int .i64 (quoteAt s)) ∧ Keeps [] w w' := by
  have hk0 := Keeps.refl [] w
  have hc2 : cs.size = 2 := by rw [hcs]; rfl
  have hemp : cs.toList.isEmpty = false := not_empty (by omega)
  have hz := zero_of_info (P := Tryd.prog) (t := 71) (v := .agg (Array.replicate 256 (.bool false))) (n := 256) (by kernel_rfl)
  have hM := Tryd.strings_makeASCIISet hz.1 cs w (by omega) (by
    subst hcs
    intro j b hj
    have : ∀ b ∈ quotes.data.toList, b.toNat < 128 := by decide
    exact this b (List.mem_of_getElem? hj))
  obtain ⟨set, hset⟩ : ∃ set, set = Lib.setCells cs.data.toList := ⟨_, rfl⟩
  have hsc : (storeCells ⟨w.heap.size + 1, 0, none⟩ set.toList 0).run Tryd.prog ((w.alloc (.cells set 71)).alloc (.cells (Array.replicate 256 (.bool false)) 71)) = .ok () ((w.alloc (.cells set 71)).alloc (.cells set 71)) := by
    have := run_storeCells_new (P := Tryd.prog) (w.alloc (.cells set 71)) 71 (Array.replicate 256 (.bool false)) set (by rw [hset, Lib.setCells_size]; exact hz.2) (by rw [hset, Lib.setCells_size, Array.size_replicate]) (by rw [hset]; exact Lib.setCells_one _)
    simpa using this
  have hsz : set.size = 256 := by rw [hset, Lib.setCells_size]
  have hcell : ∀ x : UInt8, ((w.alloc (.cells set 71)).alloc (.cells set 71)).cell? ⟨w.heap.size + 1, x.toNat, none⟩ = some (.bool (!inText x)) := fun x => by
    rw [World.cell?_alloc_at _ _ _ _ (by simp), hset, Lib.setCells_at, hcs]
    have := all_bytes (p := fun c => quotes.data.toList.contains c == !inText c) (by decide +kernel) x
    rw [beq_iff_eq] at this
    rw [this]
  rw [← hset] at hM
  clear hset
  have HC := Lib.hid hcell
  have HM := Lib.hid hM
  have HU := fun w => Tryd.strings_shouldUseASCIISet (s.size : Int) w
  have h8z : decide ((8 : Int) < (s.size : Int)) = true := decide_eq_true (by omega)
  rw [h8z] at HU
  have HU2 := fun w => Lib.hid (HU w)
  clear hcs hcell hM HU
  have hsize := hz.2
  go_enter Tryd.func26, Tryd.ntmps26
  go_wp2_with (first
    | (go_at_call 40; refine (HU2 _).out.mono ?_; rintro e w' ⟨rfl, hw⟩; rw [hw])
    | (go_at_call 41; refine HM.out.mono ?_; rintro e w' ⟨rfl, hw⟩; rw [hw]))
  clear HM hsc hw
  generalize hW : ((w.alloc (.cells set 71)).alloc (.cells set 71)) = W at *
  have hkW : Keeps [] w W := hW ▸ (hk0.alloc _).alloc _
  clear hW
  go_loopg [8] s.size (fun g s8 wx => ∃ i : Nat, i + g = s.size ∧ s8 = .int .i64 i ∧ wx = W ∧ Hid (spanN inText s.data.toList = i + spanN inText (s.data.toList.drop i)))
  case atStart => exact ⟨0, by omega, rfl, rfl, Lib.hid (by simp)⟩
  case round =>
    obtain ⟨i, hig, rfl, rfl, hn⟩ := hrel
    cases gk with
    | zero =>
      have hie : i = s.size := by omega
      have HQ := Lib.hid (quoteAt_none (i := i) (by omega) hn.out)
      have hiz : ¬ ((i : Int) < (s.size : Int)) := by omega
      clear hn hie
      go_wp2_with fail
      go_returns
      exact ⟨by rw [HQ.out]; rfl, hkW⟩
    | succ g =>
      have hi : i < s.size := by omega
      have hiz : (i : Int) < (s.size : Int) := by omega
      have hcx := HC.out s[i]
      have HQ := Lib.hid (quoteAt_hit hi hn.out)
      have HS : Hid (inText s[i] = true → spanN inText s.data.toList = i + 1 + spanN inText (s.data.toList.drop (i + 1))) := Lib.hid fun h => by
        have hone : ∀ j (hj : j < s.size), i ≤ j → j < i + 1 → inText s[j] = true := by
          intro j hj h1 h2
          have e : j = i := by omega
          subst e
          exact h
        rw [hn.out, span_skip (k := i + 1) 1 i rfl (by omega) hone]
      clear hn
      cases hin : inText s[i] <;> rw [hin] at hcx
      · have hQ := HQ.out hin
        have HQ2 := Lib.hid hQ
        have HA := Lib.hid (Tryd.asciiSet_contains _ s[i] _ _ hcx)
        clear HQ HS hQ hin hcx
        go_wp2_with (go_at_call 42; refine HA.out.mono ?_; rintro e w' ⟨rfl, hw⟩; rw [hw])
        go_returns
        exact ⟨by rw [HQ2.out]; rfl, hkW⟩
      · have hQ := HS.out hin
        have HQ2 := Lib.hid hQ
        have HA := Lib.hid (Tryd.asciiSet_contains _ s[i] _ _ hcx)
        clear HQ HS hQ hin hcx
        go_wp2_with (go_at_call 42; refine HA.out.mono ?_; rintro e w' ⟨rfl, hw⟩; rw [hw])
        go_roundg g
        case measure => omega
        case rel => exact ⟨i + 1, by omega, by simp, rfl, HQ2⟩

theorem indexAny_quote (s : ByteArray) (w : World) (hs : s.size ≤ 4611686018427387904) :
    Calls Tryd.prog 26 #[.string s, .string ⟨#[39, 10]⟩] w fun e w' => e = .returned (.int .i64 (quoteAt s)) ∧ Keeps [] w w' := by
  rcases Nat.lt_or_ge 8 s.size with h | h
  · exact indexAny_long s _ rfl w h hs
  · exact indexAny_short s _ rfl w h

end Go.Proofs.YtfoeadiejcheiaaDoor
