/- Contract of the reference's one. Conditions: those of each theorem. -/
import Derived.Test.YtfoeadiejcheiaaDoorTokI
namespace Go.Proofs.YtfoeadiejcheiaaDoor
open Go.RowKit

/-- What 'one' answers at a place: the token that begins there and its end, or that there is none. -/
def OneIs (s : ByteArray) (at_ : Nat) (v : Value) : Prop :=
  match lexOne (s.data.toList.drop at_) with
  | some (t, k) => v = .tuple #[tokV t.kind ⟨t.s.toArray⟩ t.n at_, .int .i64 ((at_ + k : Nat) : Int), .bool true]
  | none => ∃ (a : Int) (b : ByteArray) (c d E : Int), v = .tuple #[tokV a b c d, .int .i64 E, .bool false]

theorem OneIs.of_some {s : ByteArray} {at_ : Nat} {v : Value} {t : Tok} {k : Nat} (h : lexOne (s.data.toList.drop at_) = some (t, k)) (hv : v = .tuple #[tokV t.kind ⟨t.s.toArray⟩ t.n at_, .int .i64 ((at_ + k : Nat) : Int), .bool true]) : OneIs s at_ v := by
  unfold OneIs; rw [h]; exact hv
theorem OneIs.of_none {s : ByteArray} {at_ : Nat} {v : Value} (h : lexOne (s.data.toList.drop at_) = none) (a : Int) (b : ByteArray) (c d E : Int) (hv : v = .tuple #[tokV a b c d, .int .i64 E, .bool false]) : OneIs s at_ v := by
  unfold OneIs; rw [h]; exact ⟨a, b, c, d, E, hv⟩

/-- The four kinds, each as its own reader answers it. -/
theorem oneIs_word {s : ByteArray} {at_ : Nat} (hat : at_ < s.size) (hl : isLetter s[at_] = true) : OneIs s at_ (.tuple #[tokV 1 (s.extract at_ (at_ + spanN isAlnum (s.data.toList.drop at_))) 0 at_, .int .i64 ((at_ + spanN isAlnum (s.data.toList.drop at_) : Nat) : Int), .bool (decide (spanN isAlnum (s.data.toList.drop at_) ≤ 32))]) := by
  have hd : s.data.toList.drop at_ = s[at_] :: s.data.toList.drop (at_ + 1) := List.drop_eq_getElem_cons (by exact hat)
  by_cases h : spanN isAlnum (s.data.toList.drop at_) ≤ 32
  · refine OneIs.of_some (t := ⟨1, (s.data.toList.drop at_).take (spanN isAlnum (s.data.toList.drop at_)), 0⟩) (k := spanN isAlnum (s.data.toList.drop at_)) ?_ ?_
    · rw [hd] at h ⊢
      rw [lexOne, if_pos hl, if_pos h]
    · rw [extract_list, Nat.add_sub_cancel_left]
      simp [h]
  · refine OneIs.of_none ?_ 1 (s.extract at_ (at_ + spanN isAlnum (s.data.toList.drop at_))) 0 at_ ((at_ + spanN isAlnum (s.data.toList.drop at_) : Nat) : Int) (by simp only [h, decide_false])
    rw [hd] at h ⊢
    rw [lexOne, if_pos hl, if_neg h]

theorem oneIs_number {s : ByteArray} {at_ : Nat} (hat : at_ < s.size) (hl : isLetter s[at_] = false) (hg : isDigit s[at_] = true) (N : Int)
    (hN : numVal ((s.data.toList.drop at_).take (spanN isDigit (s.data.toList.drop at_))) ≤ 9223372036854775807 → N = (numVal ((s.data.toList.drop at_).take (spanN isDigit (s.data.toList.drop at_))) : Nat)) :
    OneIs s at_ (.tuple #[tokV 2 ⟨#[]⟩ N at_, .int .i64 ((at_ + spanN isDigit (s.data.toList.drop at_) : Nat) : Int), .bool (decide (numVal ((s.data.toList.drop at_).take (spanN isDigit (s.data.toList.drop at_))) ≤ 9223372036854775807) && (decide (s[at_] ≠ 48) || decide (spanN isDigit (s.data.toList.drop at_) = 1)))]) := by
  have hd : s.data.toList.drop at_ = s[at_] :: s.data.toList.drop (at_ + 1) := List.drop_eq_getElem_cons (by exact hat)
  by_cases h : numVal ((s.data.toList.drop at_).take (spanN isDigit (s.data.toList.drop at_))) ≤ 9223372036854775807 ∧ (s[at_] ≠ 48 ∨ spanN isDigit (s.data.toList.drop at_) = 1)
  · refine OneIs.of_some (t := ⟨2, [], numVal ((s.data.toList.drop at_).take (spanN isDigit (s.data.toList.drop at_)))⟩) (k := spanN isDigit (s.data.toList.drop at_)) ?_ ?_
    · rw [hd] at h ⊢
      rw [lexOne, if_neg (by simp [hl]), if_pos hg, if_pos h]
    · rw [hN h.1]
      have e : (decide (numVal ((s.data.toList.drop at_).take (spanN isDigit (s.data.toList.drop at_))) ≤ 9223372036854775807) && (decide (s[at_] ≠ 48) || decide (spanN isDigit (s.data.toList.drop at_) = 1))) = true := by simpa using h
      rw [e]
      rfl
  · have e : (decide (numVal ((s.data.toList.drop at_).take (spanN isDigit (s.data.toList.drop at_))) ≤ 9223372036854775807) && (decide (s[at_] ≠ 48) || decide (spanN isDigit (s.data.toList.drop at_) = 1))) = false := by
      rw [← Bool.not_eq_true]
      intro h2
      exact h (by simpa using h2)
    refine OneIs.of_none ?_ 2 _ N at_ _ (by rw [e])
    rw [hd] at h ⊢
    rw [lexOne, if_neg (by simp [hl]), if_pos hg, if_neg h]

theorem oneIs_text {s : ByteArray} {at_ : Nat} (hat : at_ < s.size) (h39 : s[at_] = 39) : OneIs s at_ (refTextV s at_) := by
  have hd : s.data.toList.drop at_ = s[at_] :: s.data.toList.drop (at_ + 1) := List.drop_eq_getElem_cons (by exact hat)
  have hl : isLetter s[at_] = false := by rw [h39]; decide
  have hg : isDigit s[at_] = false := by rw [h39]; decide
  unfold refTextV
  split
  · rename_i h
    refine OneIs.of_some (t := ⟨3, (s.data.toList.drop (at_ + 1)).take (spanN inText (s.data.toList.drop (at_ + 1))), 0⟩) (k := spanN inText (s.data.toList.drop (at_ + 1)) + 2) ?_ ?_
    · rw [hd, lexOne, if_neg (by simp [hl]), if_neg (by simp [hg]), if_pos h39, if_pos h]
    · rw [extract_list, Nat.add_sub_cancel_left]
      rfl
  · rename_i h
    refine OneIs.of_none ?_ 0 _ 0 0 _ rfl
    rw [hd, lexOne, if_neg (by simp [hl]), if_neg (by simp [hg]), if_pos h39, if_neg h]

theorem oneIs_sign {s : ByteArray} {at_ : Nat} (hat : at_ < s.size) (hl : isLetter s[at_] = false) (hg : isDigit s[at_] = false) (h39 : s[at_] ≠ 39) :
    OneIs s at_ (.tuple #[tokV 4 ⟨(signS (s.data.toList.drop at_)).toArray⟩ 0 at_, .int .i64 ((at_ + (signS (s.data.toList.drop at_)).length : Nat) : Int), .bool (decide (signS (s.data.toList.drop at_) ≠ []))]) := by
  have hd : s.data.toList.drop at_ = s[at_] :: s.data.toList.drop (at_ + 1) := List.drop_eq_getElem_cons (by exact hat)
  have hs33 : (s[at_] = 60 ∨ s[at_] = 61 ∨ s[at_] = 33) → isSign s[at_] = true := by
    rintro (h | h | h) <;> rw [h] <;> decide
  rw [hd]
  generalize s.data.toList.drop (at_ + 1) = r at *
  generalize s[at_] = c at *
  by_cases h1 : (c = 60 ∨ c = 61 ∨ c = 33) ∧ r.head? = some 61
  · refine OneIs.of_some (t := ⟨4, [c, 61], 0⟩) (k := 2) ?_ ?_
    · rw [hd, lexOne, if_neg (by simp [hl]), if_neg (by simp [hg]), if_neg h39, if_pos (hs33 h1.1), if_pos h1]
    · rw [signS, if_pos h1]
      rfl
  · by_cases h2 : isSign c = true ∧ c ≠ 33
    · refine OneIs.of_some (t := ⟨4, [c], 0⟩) (k := 1) ?_ ?_
      · rw [hd, lexOne, if_neg (by simp [hl]), if_neg (by simp [hg]), if_neg h39, if_pos h2.1, if_neg h1, if_neg h2.2]
      · rw [signS, if_neg h1, if_pos h2]
        rfl
    · refine OneIs.of_none ?_ 4 _ 0 at_ (at_ + 0 : Nat) (by rw [signS, if_neg h1, if_neg h2]; rfl)
      rw [hd, lexOne, if_neg (by simp [hl]), if_neg (by simp [hg]), if_neg h39]
      split
      · rename_i h3
        rw [if_pos]
        apply Classical.byContradiction
        intro h4
        exact h2 ⟨h3, h4⟩
      · rfl

theorem tok_block {w : World} {B : Nat} {a b c d : Value} {t : TypeId} (h : w.heap[B]? = some (.cells #[a, b, c, d] t)) :
    w.cell? ⟨B, 0, none⟩ = some a ∧ w.cell? ⟨B, 1, none⟩ = some b ∧ w.cell? ⟨B, 2, none⟩ = some c ∧ w.cell? ⟨B, 3, none⟩ = some d ∧
      w.frozen? ⟨B, 0, none⟩ = false ∧ w.frozen? ⟨B, 1, none⟩ = false ∧ w.frozen? ⟨B, 2, none⟩ = false ∧ w.frozen? ⟨B, 3, none⟩ = false := by
  simp [World.cell?, World.frozen?, h]

theorem Keeps.set4 {S : List Nat} {a w : World} (h : Keeps S a w) {B : Nat} (hB : a.heap.size ≤ B) (p q r u : Value) :
    Keeps S a ((((w.setCell ⟨B, 0, none⟩ p).setCell ⟨B, 1, none⟩ q).setCell ⟨B, 2, none⟩ r).setCell ⟨B, 3, none⟩ u) :=
  (((h.setCell (.inr hB) _).setCell (.inr hB) _).setCell (.inr hB) _).setCell (.inr hB) _

theorem set4_block {w : World} {B : Nat} {a b c d : Value} {t : TypeId} (h : w.heap[B]? = some (.cells #[a, b, c, d] t)) (p q r u : Value) :
    ((((w.setCell ⟨B, 0, none⟩ p).setCell ⟨B, 1, none⟩ q).setCell ⟨B, 2, none⟩ r).setCell ⟨B, 3, none⟩ u).heap[B]? = some (.cells #[p, q, r, u] t (0, 0)) := by
  rw [heap_set_self (heap_set_self (heap_set_self (heap_set_self h)))]
  rfl

/-- A return of a struct that lies in a block, and two more. -/
theorem ret_row2 {P : Program} {fn : Func} {R : Ending → World → Prop} {a : Act} {w : World} {p u v : Tmp} {ty : TypeId} (h : fn.results = #[.cell p ty, .tmp u, .tmp v]) (g : Nat) (t : TypeId) (cs : Array Value) (fr : Nat × Nat) (d : TypeDesc)
    (hp : a.tmps.getD p undef = .pointer (some ⟨g, 0, none⟩)) (hg : w.heap[g]? = some (.cells cs t fr))
    (hu : P.underlying ty = some d) (hd : (match d with | .struct _ | .array _ _ => true | _ => false) = true) (hi : (P.info? ty).map (·.size) = some cs.size) (hdf : a.defers = [])
    (hR : R (.returned (.tuple #[.agg cs, a.tmps.getD u undef, a.tmps.getD v undef])) w) : bodyPost P fn R .ret a w := by
  refine bodyPost_ret (v := .tuple #[.agg cs, a.tmps.getD u undef, a.tmps.getD v undef]) ?_ hdf hR
  have hp' : a.tmps[p]?.getD undef = .pointer (some ⟨g, 0, none⟩) := by simpa using hp
  simp [results, h, hp', asAddr, run_loadVar_row w g t ty cs fr d hg hu hd hi]

/-- The form of what 'one' answers, and under what it is right. -/
def OneOut (s : ByteArray) (at_ : Nat) (c : Prop) (e : Ending) : Prop :=
  ∃ (a : Int) (b : ByteArray) (n d E : Int) (o : Bool), e = .returned (.tuple #[.agg #[.int .i64 a, .string b, .int .i64 n, .int .i64 d], .int .i64 E, .bool o]) ∧
    (c → OneIs s at_ (.tuple #[.agg #[.int .i64 a, .string b, .int .i64 n, .int .i64 d], .int .i64 E, .bool o]))

theorem text_out (s : ByteArray) (at_ : Nat) (hat : at_ < s.size) : OneOut s at_ (s[at_] = 39) (.returned (refTextV s at_)) := by
  have h : ∃ (a : Int) (b : ByteArray) (n d E : Int) (o : Bool), refTextV s at_ = (.tuple #[.agg #[.int .i64 a, .string b, .int .i64 n, .int .i64 d], .int .i64 E, .bool o]) := by
    unfold refTextV
    split
    · exact ⟨_, _, _, _, _, _, rfl⟩
    · exact ⟨_, _, _, _, _, _, rfl⟩
  obtain ⟨a, b, n, d, E, o, h⟩ := h
  exact ⟨a, b, n, d, E, o, by rw [h], fun h39 => h ▸ oneIs_text hat h39⟩

set_option maxHeartbeats 2000000 in
set_option maxRecDepth 100000 in
theorem refOne_any (s : ByteArray) (at_ : Nat) (w : World) (hat : at_ < s.size) (hs : s.size ≤ 4611686018427387904) :
    Calls Tryd.prog 22 #[.string s, .int .i64 (at_ : Int)] w fun e w' => OneOut s at_ True e ∧ Keeps [] w w' := by
  have hk0 := Keeps.refl [] w
  have b0 : (0 : Int) ≤ (at_ : Int) := by omega
  have b1 : (at_ : Int) < (s.size : Int) := by omega
  have HL := fun w => letter_any s[at_] w
  have HD := fun w => digit_any s[at_] w
  have HS := fun w => Lib.hid (refSign_any s at_ w hat hs)
  have HT : ∀ w, Hid (Calls Tryd.prog 34 #[.string s, .int .i64 (at_ : Int)] w fun e w' => OneOut s at_ (s[at_] = 39) e ∧ Keeps [] w w') := fun w => Lib.hid ((refText_any s at_ w hat hs).mono fun e w' ⟨h1, h2⟩ => ⟨h1 ▸ text_out s at_ hat, h2⟩)
  cases h1 : isLetter s[at_] with
  | true =>
    rw [h1] at HL
    have HL := fun w => Lib.hid (HL w)
    have HW : ∀ w, Hid (Calls Tryd.prog 31 #[.string s, .int .i64 (at_ : Int)] w fun e w' => OneOut s at_ True e ∧ Keeps [] w w') := fun w => Lib.hid ((refWord_any s at_ w (Nat.le_of_lt hat) hs).mono fun e w' ⟨h3, h2⟩ => ⟨h3 ▸ ⟨_, _, _, _, _, _, rfl, fun _ => oneIs_word hat h1⟩, h2⟩)
    clear h1
    go_enter Tryd.func22, Tryd.ntmps22
    go_wp2_with (first
      | (go_at_call 30; refine (HL _).out.mono ?_; rintro e w' ⟨rfl, rfl⟩)
      | (go_at_call 31; refine (HW _).out.mono ?_; rintro e w' ⟨⟨a, b, n, d, E, o, rfl, ho⟩, hkk⟩; have HO := Lib.hid ho; clear ho; obtain ⟨c0, c1, c2, c3, z0, z1, z2, z3⟩ := tok_block (hkk.heap (heap_alloc_new _ _) (by simp))))
    refine ret_row2 rfl w.heap.size _ _ _ _ rfl (set4_block (hkk.heap (heap_alloc_new _ _) (by simp)) _ _ _ _) Tryd.underlying34 rfl (by kernel_rfl) rfl ?_
    exact ⟨⟨a, b, n, d, E, o, rfl, fun _ => HO.out trivial⟩, Keeps.set4 ((hk0.alloc _).then hkk) (Nat.le_refl _) _ _ _ _⟩
  | false =>
    rw [h1] at HL
    have HL := fun w => Lib.hid (HL w)
    cases h2 : isDigit s[at_] with
    | true =>
      rw [h2] at HD
      have HD := fun w => Lib.hid (HD w)
      have HN : ∀ w, Hid (Calls Tryd.prog 33 #[.string s, .int .i64 (at_ : Int)] w fun e w' => OneOut s at_ True e ∧ Keeps [] w w') := fun w => Lib.hid ((refNumber_any s at_ w hat h2 hs).mono fun e w' ⟨⟨N, h3, hN⟩, h4⟩ => ⟨h3 ▸ ⟨_, _, _, _, _, _, rfl, fun _ => oneIs_number hat h1 h2 N hN⟩, h4⟩)
      clear h1 h2
      go_enter Tryd.func22, Tryd.ntmps22
      go_wp2_with (first
      | (go_at_call 30; refine (HL _).out.mono ?_; rintro e w' ⟨rfl, rfl⟩)
      | (go_at_call 32; refine (HD _).out.mono ?_; rintro e w' ⟨rfl, rfl⟩)
      | (go_at_call 33; refine (HN _).out.mono ?_; rintro e w' ⟨⟨a, b, n, d, E, o, rfl, ho⟩, hkk⟩; have HO := Lib.hid ho; clear ho; obtain ⟨c0, c1, c2, c3, z0, z1, z2, z3⟩ := tok_block (hkk.heap (heap_alloc_new _ _) (by simp))))
      refine ret_row2 rfl w.heap.size _ _ _ _ rfl (set4_block (hkk.heap (heap_alloc_new _ _) (by simp)) _ _ _ _) Tryd.underlying34 rfl (by kernel_rfl) rfl ?_
      exact ⟨⟨a, b, n, d, E, o, rfl, fun _ => HO.out trivial⟩, Keeps.set4 ((hk0.alloc _).then hkk) (Nat.le_refl _) _ _ _ _⟩
    | false =>
      rw [h2] at HD
      have HD := fun w => Lib.hid (HD w)
      have HG := Lib.hid (oneIs_sign hat h1 h2)
      have hwr : IntKind.i64.wrap ((at_ : Int) + (signS (s.data.toList.drop at_)).length) = (at_ : Int) + (signS (s.data.toList.drop at_)).length := by
        apply IntWalk.i64_in
        have : (signS (s.data.toList.drop at_)).length ≤ 2 := by
          unfold signS
          split
          · simp
          · split
            · simp
            · split <;> simp
        omega
      clear h1 h2
      generalize hsg : signS (s.data.toList.drop at_) = sg at *
      clear hsg
      go_enter Tryd.func22, Tryd.ntmps22
      go_wp2_with (first
      | (go_at_call 30; refine (HL _).out.mono ?_; rintro e w' ⟨rfl, rfl⟩)
      | (go_at_call 32; refine (HD _).out.mono ?_; rintro e w' ⟨rfl, rfl⟩)
      | (go_at_call 34; refine (HT _).out.mono ?_; rintro e w' ⟨⟨a, b, n, d, E, o, rfl, ho⟩, hkk⟩; have HO := Lib.hid ho; clear ho; obtain ⟨c0, c1, c2, c3, z0, z1, z2, z3⟩ := tok_block (hkk.heap (heap_alloc_new _ _) (by simp)))
      | (go_at_call 35; refine (HS _).out.mono ?_; rintro e w' ⟨rfl, hkk⟩; obtain ⟨c0, c1, c2, c3, z0, z1, z2, z3⟩ := tok_block (hkk.heap (heap_alloc_new _ _) (by simp))))
      all_goals refine ret_row2 rfl w.heap.size _ _ _ _ rfl (set4_block (hkk.heap (heap_alloc_new _ _) (by simp)) _ _ _ _) Tryd.underlying34 rfl (by kernel_rfl) rfl ?_
      · rename_i h39
        have h3 := eq_of_beq h39
        exact ⟨⟨a, b, n, d, E, o, rfl, fun _ => HO.out (UInt8.toNat_inj.1 (by simp; omega))⟩, Keeps.set4 ((hk0.alloc _).then hkk) (Nat.le_refl _) _ _ _ _⟩
      · rename_i h39
        have h3 : s[at_] ≠ 39 := fun h => by rw [h] at h39; exact absurd h39 (by decide)
        have hg := HG.out h3
        have e1 : decide (sg ≠ []) = !sg.isEmpty := by cases sg <;> rfl
        rw [e1, Int.natCast_add] at hg
        exact ⟨⟨4, _, 0, at_, (at_ : Int) + sg.length, !sg.isEmpty, rfl, fun _ => hg⟩, Keeps.set4 ((hk0.alloc _).then hkk) (Nat.le_refl _) _ _ _ _⟩

end Go.Proofs.YtfoeadiejcheiaaDoor
