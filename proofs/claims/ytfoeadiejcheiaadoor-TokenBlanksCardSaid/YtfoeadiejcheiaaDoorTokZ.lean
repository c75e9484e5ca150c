/- Contract of Join. Conditions: those of each theorem. -/
import Derived.Test.YtfoeadiejcheiaaDoorTokY
namespace Go.Proofs.YtfoeadiejcheiaaDoor
open Go.RowKit

theorem rtStr : RowTy Tryd.prog 39 9 1 16 := ⟨by kernel_rfl, by kernel_rfl, by decide⟩

theorem jm_end {l : List TokR} {n : Nat} {x : TokR} (hn : l.length = n + 1) (hx : l[n]? = some x) (hk : x.kind = 0) : joinM l = if n ≤ 4096 ∧ (x.s.size ≠ 0 ∨ x.n ≠ 0) then .error 100 else joinCore l.dropLast := by
  unfold joinM
  rw [List.getLast?_eq_getElem?, hn, Nat.add_sub_cancel, hx]
  simp only [hk, if_true]
theorem jm_not {l : List TokR} {n : Nat} {x : TokR} (hn : l.length = n + 1) (hx : l[n]? = some x) (hk : x.kind ≠ 0) : joinM l = joinCore l := by
  unfold joinM
  rw [List.getLast?_eq_getElem?, hn, Nat.add_sub_cancel, hx]
  simp only [hk, if_false]

theorem JoinOut.bad {r : Except Int (List UInt8)} {c : Int} {e : Ending} (h : r = .error c) (he : e = .returned (.tuple #[.string ⟨#[]⟩, .int .i64 c])) : JoinOut r e := by
  rw [h]; exact he
theorem JoinOut.good {r : Except Int (List UInt8)} {b : List UInt8} {e : Ending} (h : r = .ok b) (he : e = .returned (.tuple #[.string ⟨b.toArray⟩, .int .i64 0])) : JoinOut r e := by
  rw [h]; exact he

theorem core_long {l : List TokR} (h : 4096 < l.length) : joinCore l = .error 2 := by unfold joinCore; rw [if_pos h]
theorem core_bad {l : List TokR} (h : ¬ 4096 < l.length) {x : TokR} (hm : x ∈ l) (hx : wtn x = none) : joinCore l = .error 100 := by
  unfold joinCore; rw [if_neg h, wrAll_none hm hx]
theorem core_all {l : List TokR} (h : ¬ 4096 < l.length) {ws : List (List UInt8)} (hw : wrAll l = some ws) : joinCore l = if 262144 < (joinW ws).length then .error 2 else .ok (joinW ws) := by
  unfold joinCore; rw [if_neg h, hw]

theorem WrittenOut.split {x : TokR} {e : Ending} (h : WrittenOut x.kind x.s x.n e) : (wtn x = none ∧ ∃ r : ByteArray, e = .returned (.tuple #[.string r, .bool false])) ∨ ∃ a, wtn x = some a ∧ e = .returned (.tuple #[.string ⟨a.toArray⟩, .bool true]) := by
  obtain ⟨r, o, rfl, h2⟩ := h
  unfold wtn
  cases hw : writtenM x.kind x.s.data.toList x.n with
  | none => rw [hw] at h2; simp only at h2; subst h2; exact .inl ⟨rfl, r, rfl⟩
  | some a => rw [hw] at h2; simp only at h2; obtain ⟨rfl, rfl⟩ := h2; exact .inr ⟨a, rfl, rfl⟩

theorem sl_strs {w : World} {base : Nat} {v : Value} {n : Nat} {ws : List (List UInt8)} (h : w.ownsRow base 9 1 v n (ws.map fun a => .string ⟨a.toArray⟩)) : ws.length = n := by
  have := h.1
  simpa using this

/-- strings.Join of words that are owned. -/
theorem joinLib_any (w : World) (base : Nat) (ao : Option Addr) (cp n : Nat) (ws : List (List UInt8)) (h : w.ownsRow base 9 1 (.slice ao n cp) n (ws.map fun a => .string ⟨a.toArray⟩)) (hn : n ≤ 4096) (hl : (joinW ws).length ≤ 140737488355328) :
    Calls Tryd.prog 13 #[.slice ao n cp, .string ⟨#[32]⟩] w fun e w' => e = .returned (.string ⟨(joinW ws).toArray⟩) ∧ Keeps [] w w' := by
  have hlen := sl_strs h
  rcases h.2 with ⟨he, h0⟩ | ⟨g, cap, cur, he, hb, hg, hnc, hm, hs, ht⟩
  · subst h0
    cases he
    have : ws = [] := List.eq_nil_of_length_eq_zero hlen
    subst this
    exact (Tryd.strings_Join_none none 0 ⟨#[32]⟩ w).mono fun e w' ⟨h1, h2⟩ => ⟨h1, h2 ▸ Keeps.refl [] _⟩
  · cases he
    have hmap : (ws.map fun a => (⟨a.toArray⟩ : ByteArray)).map (·.data.toList) = ws := by
      rw [List.map_map]
      exact List.map_id'' (fun a => by simp) ws
    have hj : Lib.join ((ws.map fun a => (⟨a.toArray⟩ : ByteArray)).map (·.data.toList)) (⟨#[32]⟩ : ByteArray).data.toList = joinW ws := by
      rw [hmap]
      exact join_same ws
    have hc := Tryd.strings_Join g 0 cp (ws.map fun a => (⟨a.toArray⟩ : ByteArray)) ⟨#[32]⟩ w (by
      intro j x hx
      have := h.cells rfl j (.string x) (by
        rw [List.getElem?_map] at hx ⊢
        cases hw : ws[j]? with
        | none => rw [hw] at hx; cases hx
        | some a => rw [hw] at hx; cases hx; rfl)
      simpa [addr_add] using this) (heap_lt hg) (by simp; omega) (by simp; omega) (by rw [hj]; exact hl)
    rw [hj, List.length_map, hlen] at hc
    exact hc.mono fun e w' ⟨h1, h2⟩ => ⟨h1, Keeps.of_below h2⟩

set_option maxHeartbeats 8000000 in
set_option maxRecDepth 100000 in
theorem join_some (l : List TokR) (bk o cap : Nat) (w : World) (hG : Glob w) (hok : ∀ x ∈ l, x.ok) (hsl : TokSl w bk o l) (hl : l.length ≤ cap) (hcap : cap ≤ 9223372036854775807) (hne : l ≠ []) :
    Calls Tryd.prog 7 #[.slice (some ⟨bk, o, none⟩) l.length cap] w fun e w' => JoinOut (joinM l) e ∧ Keeps [] w w' := by
  have hk0 := Keeps.refl [] w
  have HG := Lib.hid hG
  obtain ⟨n, hn⟩ : ∃ n, l.length = n + 1 := ⟨l.length - 1, by have := List.length_pos_iff.2 hne; omega⟩
  obtain ⟨x, hx⟩ : ∃ x, l[n]? = some x := ⟨l[n], List.getElem?_eq_getElem (by omega)⟩
  obtain ⟨c0, c1, c2, c3⟩ := hsl n x hx
  have q1 : IntKind.i64.wrap (((n + 1 : Nat) : Int) - 1) = (n : Int) := (IntWalk.i64_in _ (by omega)).trans (by omega)
  have HS := Lib.hid hsl
  have HE := Lib.hid (fun h => jm_end hn hx h)
  have HJ := Lib.hid (fun h => jm_not hn hx h)
  have HOk := Lib.hid hok
  have HX := Lib.hid hx
  clear hG hsl hok hx hne
  rw [hn]
  rw [hn] at hl
  have HN := Lib.hid hn
  clear hn
  go_enter Tryd.func7, Tryd.ntmps7
  go_wp2_with fail
  · go_returns
    refine ⟨.bad ((HE.out (eq_of_beq ‹_›)).trans (if_pos ⟨by omega, .inr (by rename_i h; rw [bne_iff_ne] at h; exact h)⟩)) rfl, hk0⟩
  · have hkd := eq_of_beq ‹(x.kind == 0) = true›
    have hsz0 : x.s.size = 0 := by
      have h : x.s.toList = [] := by assumption
      rw [ByteArray.toList_eq] at h
      have h2 := congrArg List.length h
      exact h2
    have hn0 : x.n = 0 := by
      have h : (x.n != 0) = false := by assumption
      simpa using h
    have HJM : Hid (joinM l = joinCore l.dropLast) := Lib.hid ((HE.out hkd).trans (if_neg (by rw [hsz0, hn0]; simp)))
    have HSL : Hid (TokSl w bk o l.dropLast) := Lib.hid (fun j y hy => HS.out j y (by
      have hj : j < l.dropLast.length := by
        rcases Nat.lt_or_ge j l.dropLast.length with h | h
        · exact h
        · rw [List.getElem?_eq_none h] at hy; cases hy
      rw [List.getElem?_dropLast] at hy
      split at hy
      · exact hy
      · cases hy))
    have HOL : Hid (∀ y ∈ l.dropLast, y.ok) := Lib.hid (fun y hy => HOk.out y (List.dropLast_subset l hy))
    have HL : Hid (l.dropLast.length = n) := Lib.hid (by rw [List.length_dropLast, HN.out]; rfl)
    have hq : (x.n != 0) = false := by assumption
    rw [hq]
    clear hkd hsz0 hn0
    clear c0 c1 c2 c3 HE HJ HX HN HS HOk
    go_loopw [5, 6, 50] (fun ws_ lg i wr_ => ∃ (k : Nat) (ws : List (List UInt8)) (ao : Option Addr) (cp : Nat), k ≤ n ∧ i = .int .i64 k ∧ ws_ = .slice ao k cp ∧ lg = .int .i64 (longOf ws : Nat) ∧ longOf ws ≤ 301 * k ∧ Hid (wrAll (l.dropLast.take k) = some ws) ∧ Hid (wr_.ownsRow w.heap.size 9 1 (.slice ao k cp) k (ws.map fun a => .string ⟨a.toArray⟩)) ∧ Keeps [] w wr_) (fun _ _ i _ => n - (intOf i).toNat)
    case atStart => exact ⟨0, [], none, 0, Nat.zero_le _, rfl, rfl, rfl, by simp [longOf], Lib.hid rfl, Lib.hid ⟨rfl, .inl ⟨rfl, rfl⟩⟩, hk0⟩
    case round =>
      obtain ⟨k, ws, ao, cp, hkm, rfl, rfl, rfl, hlo, hW, hown, hk⟩ := hrel
      by_cases hlt : k < n
      · have d1 : decide ((k : Int) < (n : Int)) = true := by simp; omega
        obtain ⟨y, hy⟩ : ∃ y, l.dropLast[k]? = some y := ⟨l.dropLast[k]'(by rw [HL.out]; omega), List.getElem?_eq_getElem _⟩
        obtain ⟨y0, y1, y2, y3⟩ := (HSL.out.keep hk) k y hy
        have hyo := HOL.out y (List.mem_of_getElem? hy)
        have HWr := fun w h => Lib.hid (written_any y.kind y.n y.at_ y.s w h ⟨hyo.1, hyo.2.1⟩ hyo.2.2)
        have hbase : w.heap.size ≤ wr.heap.size := hk.size
        cases hwy : wtn y with
        | none =>
          have HB := Lib.hid (core_bad (by rw [HL.out]; omega) (List.mem_of_getElem? hy) hwy)
          have HF : ∀ w h, Hid (Calls Tryd.prog 12 #[.agg #[.int .i64 y.kind, .string y.s, .int .i64 y.n, .int .i64 y.at_]] w fun e w' => (∃ r : ByteArray, e = .returned (.tuple #[.string r, .bool false])) ∧ Keeps [] w w') := fun w h => Lib.hid ((HWr w h).out.mono fun e w' ⟨h1, h2⟩ => ⟨(by
            rcases h1.split with ⟨_, h⟩ | ⟨a, ha, _⟩
            · exact h
            · rw [hwy] at ha; cases ha), h2⟩)
          clear hy hyo HWr hwy
          go_wp2_with (go_at_call 12; refine (HF _ (HG.out.keep (hk.alloc _))).out.mono ?_; rintro e w2 ⟨⟨r, rfl⟩, hk2⟩)
          go_returns
          exact ⟨.bad (HJM.out.trans HB.out) rfl, (hk.alloc _).then hk2⟩
        | some a =>
          have HF : ∀ w h, Hid (Calls Tryd.prog 12 #[.agg #[.int .i64 y.kind, .string y.s, .int .i64 y.n, .int .i64 y.at_]] w fun e w' => e = .returned (.tuple #[.string ⟨a.toArray⟩, .bool true]) ∧ Keeps [] w w') := fun w h => Lib.hid ((HWr w h).out.mono fun e w' ⟨h1, h2⟩ => ⟨(by
            rcases h1.split with ⟨h, _⟩ | ⟨a', ha, h⟩
            · rw [hwy] at h; cases h
            · rw [hwy] at ha; cases ha; exact h), h2⟩)
          have hal := wtn_len hwy
          have HT : Hid (wrAll (l.dropLast.take (k + 1)) = some (ws ++ [a])) := Lib.hid (by
            have hlk : k < l.dropLast.length := by rw [HL.out]; omega
            have hyk : l.dropLast[k] = y := by rw [List.getElem?_eq_getElem hlk] at hy; exact Option.some.inj hy
            rw [List.take_succ_eq_append_getElem hlk, wrAll_snoc, hW.out, hyk, hwy])
          have hls := longOf_snoc ws a
          have hsza : ((⟨a.toArray⟩ : ByteArray).size : Int) = a.length := by simp [ByteArray.size]
          obtain ⟨r, hr⟩ : ∃ r : ByteArray, r = ⟨a.toArray⟩ := ⟨_, rfl⟩
          rw [← hr] at HF hsza
          have HRr := Lib.hid hr
          have HLS := Lib.hid hls
          have hwl := sl_strs hown.out
          have HWL := Lib.hid hwl
          obtain ⟨lg, hlg⟩ : ∃ lg : Int, lg = (longOf ws : Nat) := ⟨_, rfl⟩
          rw [← hlg]
          have hlg0 : 0 ≤ lg := by omega
          have hlg1 : lg ≤ 301 * (k : Int) := by omega
          have HLG := Lib.hid hlg
          have hk4 : k ≤ 4096 := by omega
          clear hy hyo HWr hwy hr hls hwl hlg
          go_wp2_with (first
            | (go_at_call 12; refine (HF _ (HG.out.keep (hk.alloc _))).out.mono ?_; rintro e w2 ⟨rfl, hk2⟩; have hkb := hk2.size)
            | (at_builtin; refine list_append_any rtStr (by rfl) _ _ (by rfl) w.heap.size _ k (ws.map fun a => .string ⟨a.toArray⟩) (by rfl) ((own_kept (hown.out.alloc _) hk2 (by simp)).alloc _) _ 1 [.string r] (by rfl) (SlC.of_block (cs := #[.string r]) (t := 9) (fr := (0, 0)) (heap_alloc_new _ _) (by rfl)) (by simp [Value.oneCell']) (by omega) (by unfold maxLen; omega) (by simp at hkb ⊢; omega) ?_; intro ao3 cp3 w3 hown3 hgrow3 hat3 hnil3; have HO3 := Lib.hid hown3; clear hown3; have hk3 : Keeps [] w w3 := ((((hk.alloc _).then hk2).alloc _).grown hgrow3 (fun k h => .inr (own_ge hown.out h)))))
          refine ⟨⟨k + 1, ws ++ [a], ao3, cp3, by omega, by simp, rfl, ?_, ?_, HT, Lib.hid ?_, hk3⟩, by simp only [intOf]; omega⟩
          · have h1 := HLS.out
            have h2 := HLG.out
            congr 1
            omega
          · have h1 := HLS.out
            omega
          · rw [List.map_append, List.map_singleton, ← HRr.out]
            exact HO3.out
      · have hke : k = n := by omega
        have d1 : decide ((k : Int) < (n : Int)) = false := by simp; omega
        have hall : l.dropLast.take k = l.dropLast := List.take_of_length_le (by rw [HL.out, hke]; exact Nat.le_refl _)
        have hWW := hW.out
        rw [hall] at hWW
        have HC := Lib.hid (core_all (by rw [HL.out]; omega) hWW)
        have hwl := sl_strs hown.out
        have HWL := Lib.hid hwl
        have hjl : ((longOf ws : Nat) : Int) - 1 ≤ 262144 ↔ (joinW ws).length ≤ 262144 := by
          cases ws with
          | nil => simp [longOf, joinW]
          | cons b r =>
            have := joinW_length (b :: r) (by simp)
            omega
        have hjb : (joinW ws).length ≤ 140737488355328 := by
          cases ws with
          | nil => simp [joinW]
          | cons b r =>
            have := joinW_length (b :: r) (by simp)
            omega
        have HJn := Lib.hid (joinLib_any wr _ ao cp k ws hown.out (by omega) hjb)
        have HJl := Lib.hid hjl
        obtain ⟨lg, hlg⟩ : ∃ lg : Int, lg = (longOf ws : Nat) := ⟨_, rfl⟩
        rw [← hlg]
        have hlg0 : 0 ≤ lg := by omega
        have hlg1 : lg ≤ 301 * (k : Int) := by omega
        have HLG := Lib.hid hlg
        have hk4 : k ≤ 4096 := by omega
        clear hall hWW hwl hjl hjb hlg hke
        go_wp2_with (go_at_call 13; refine HJn.out.mono ?_; rintro e w2 ⟨rfl, hk2⟩)
        · go_returns
          have h1 := HJl.out
          have h2 := HLG.out
          exact ⟨.bad (HJM.out.trans (HC.out.trans (if_pos (by omega)))) rfl, hk⟩
        · go_returns
          have h1 := HJl.out
          have h2 := HLG.out
          exact ⟨.good (HJM.out.trans (HC.out.trans (if_neg (by omega)))) rfl, hk.then hk2⟩
  · go_returns
    refine ⟨.bad ((HE.out (eq_of_beq ‹_›)).trans (if_pos ⟨by omega, .inl (fun h0 => (by assumption : ¬ x.s.toList = []) (by rw [ByteArray.toList_eq]; exact List.eq_nil_of_length_eq_zero h0))⟩)) rfl, hk0⟩
  · go_returns
    refine ⟨.bad ((HE.out (eq_of_beq ‹_›)).trans ((if_neg (by omega)).trans (core_long (by rw [List.length_dropLast, HN.out]; omega)))) rfl, hk0⟩
  · go_returns
    refine ⟨.bad ((HJ.out (by simpa using ‹(x.kind == 0) = false›)).trans (core_long (by rw [HN.out]; omega))) rfl, hk0⟩
  · have hkd : x.kind ≠ 0 := by simpa using ‹(x.kind == 0) = false›
    have HJM : Hid (joinM l = joinCore l) := Lib.hid (HJ.out hkd)
    have HSL := HS
    have HOL := HOk
    have HL := HN
    have hq : (x.kind == 0) = false := by assumption
    rw [hq]
    clear hkd
    clear c0 c1 c2 c3 HE HJ HX HN HS HOk
    go_loopw [5, 6, 50] (fun ws_ lg i wr_ => ∃ (k : Nat) (ws : List (List UInt8)) (ao : Option Addr) (cp : Nat), k ≤ (n + 1) ∧ i = .int .i64 k ∧ ws_ = .slice ao k cp ∧ lg = .int .i64 (longOf ws : Nat) ∧ longOf ws ≤ 301 * k ∧ Hid (wrAll (l.take k) = some ws) ∧ Hid (wr_.ownsRow w.heap.size 9 1 (.slice ao k cp) k (ws.map fun a => .string ⟨a.toArray⟩)) ∧ Keeps [] w wr_) (fun _ _ i _ => (n + 1) - (intOf i).toNat)
    case atStart => exact ⟨0, [], none, 0, Nat.zero_le _, rfl, rfl, rfl, by simp [longOf], Lib.hid rfl, Lib.hid ⟨rfl, .inl ⟨rfl, rfl⟩⟩, hk0⟩
    case round =>
      obtain ⟨k, ws, ao, cp, hkm, rfl, rfl, rfl, hlo, hW, hown, hk⟩ := hrel
      by_cases hlt : k < (n + 1)
      · have d1 : decide ((k : Int) < (n : Int) + 1) = true := by simp; omega
        obtain ⟨y, hy⟩ : ∃ y, l[k]? = some y := ⟨l[k]'(by rw [HL.out]; omega), List.getElem?_eq_getElem _⟩
        obtain ⟨y0, y1, y2, y3⟩ := (HSL.out.keep hk) k y hy
        have hyo := HOL.out y (List.mem_of_getElem? hy)
        have HWr := fun w h => Lib.hid (written_any y.kind y.n y.at_ y.s w h ⟨hyo.1, hyo.2.1⟩ hyo.2.2)
        have hbase : w.heap.size ≤ wr.heap.size := hk.size
        cases hwy : wtn y with
        | none =>
          have HB := Lib.hid (core_bad (by rw [HL.out]; omega) (List.mem_of_getElem? hy) hwy)
          have HF : ∀ w h, Hid (Calls Tryd.prog 12 #[.agg #[.int .i64 y.kind, .string y.s, .int .i64 y.n, .int .i64 y.at_]] w fun e w' => (∃ r : ByteArray, e = .returned (.tuple #[.string r, .bool false])) ∧ Keeps [] w w') := fun w h => Lib.hid ((HWr w h).out.mono fun e w' ⟨h1, h2⟩ => ⟨(by
            rcases h1.split with ⟨_, h⟩ | ⟨a, ha, _⟩
            · exact h
            · rw [hwy] at ha; cases ha), h2⟩)
          clear hy hyo HWr hwy
          go_wp2_with (go_at_call 12; refine (HF _ (HG.out.keep (hk.alloc _))).out.mono ?_; rintro e w2 ⟨⟨r, rfl⟩, hk2⟩)
          go_returns
          exact ⟨.bad (HJM.out.trans HB.out) rfl, (hk.alloc _).then hk2⟩
        | some a =>
          have HF : ∀ w h, Hid (Calls Tryd.prog 12 #[.agg #[.int .i64 y.kind, .string y.s, .int .i64 y.n, .int .i64 y.at_]] w fun e w' => e = .returned (.tuple #[.string ⟨a.toArray⟩, .bool true]) ∧ Keeps [] w w') := fun w h => Lib.hid ((HWr w h).out.mono fun e w' ⟨h1, h2⟩ => ⟨(by
            rcases h1.split with ⟨h, _⟩ | ⟨a', ha, h⟩
            · rw [hwy] at h; cases h
            · rw [hwy] at ha; cases ha; exact h), h2⟩)
          have hal := wtn_len hwy
          have HT : Hid (wrAll (l.take (k + 1)) = some (ws ++ [a])) := Lib.hid (by
            have hlk : k < l.length := by rw [HL.out]; omega
            have hyk : l[k] = y := by rw [List.getElem?_eq_getElem hlk] at hy; exact Option.some.inj hy
            rw [List.take_succ_eq_append_getElem hlk, wrAll_snoc, hW.out, hyk, hwy])
          have hls := longOf_snoc ws a
          have hsza : ((⟨a.toArray⟩ : ByteArray).size : Int) = a.length := by simp [ByteArray.size]
          obtain ⟨r, hr⟩ : ∃ r : ByteArray, r = ⟨a.toArray⟩ := ⟨_, rfl⟩
          rw [← hr] at HF hsza
          have HRr := Lib.hid hr
          have HLS := Lib.hid hls
          have hwl := sl_strs hown.out
          have HWL := Lib.hid hwl
          obtain ⟨lg, hlg⟩ : ∃ lg : Int, lg = (longOf ws : Nat) := ⟨_, rfl⟩
          rw [← hlg]
          have hlg0 : 0 ≤ lg := by omega
          have hlg1 : lg ≤ 301 * (k : Int) := by omega
          have HLG := Lib.hid hlg
          have hk4 : k ≤ 4096 := by omega
          clear hy hyo HWr hwy hr hls hwl hlg
          go_wp2_with (first
            | (go_at_call 12; refine (HF _ (HG.out.keep (hk.alloc _))).out.mono ?_; rintro e w2 ⟨rfl, hk2⟩; have hkb := hk2.size)
            | (at_builtin; refine list_append_any rtStr (by rfl) _ _ (by rfl) w.heap.size _ k (ws.map fun a => .string ⟨a.toArray⟩) (by rfl) ((own_kept (hown.out.alloc _) hk2 (by simp)).alloc _) _ 1 [.string r] (by rfl) (SlC.of_block (cs := #[.string r]) (t := 9) (fr := (0, 0)) (heap_alloc_new _ _) (by rfl)) (by simp [Value.oneCell']) (by omega) (by unfold maxLen; omega) (by simp at hkb ⊢; omega) ?_; intro ao3 cp3 w3 hown3 hgrow3 hat3 hnil3; have HO3 := Lib.hid hown3; clear hown3; have hk3 : Keeps [] w w3 := ((((hk.alloc _).then hk2).alloc _).grown hgrow3 (fun k h => .inr (own_ge hown.out h)))))
          refine ⟨⟨k + 1, ws ++ [a], ao3, cp3, by omega, by simp, rfl, ?_, ?_, HT, Lib.hid ?_, hk3⟩, by simp only [intOf]; omega⟩
          · have h1 := HLS.out
            have h2 := HLG.out
            congr 1
            omega
          · have h1 := HLS.out
            omega
          · rw [List.map_append, List.map_singleton, ← HRr.out]
            exact HO3.out
      · have hke : k = (n + 1) := by omega
        have d1 : decide ((k : Int) < (n : Int) + 1) = false := by simp; omega
        have hall : l.take k = l := List.take_of_length_le (by rw [HL.out, hke]; exact Nat.le_refl _)
        have hWW := hW.out
        rw [hall] at hWW
        have HC := Lib.hid (core_all (by rw [HL.out]; omega) hWW)
        have hwl := sl_strs hown.out
        have HWL := Lib.hid hwl
        have hjl : ((longOf ws : Nat) : Int) - 1 ≤ 262144 ↔ (joinW ws).length ≤ 262144 := by
          cases ws with
          | nil => simp [longOf, joinW]
          | cons b r =>
            have := joinW_length (b :: r) (by simp)
            omega
        have hjb : (joinW ws).length ≤ 140737488355328 := by
          cases ws with
          | nil => simp [joinW]
          | cons b r =>
            have := joinW_length (b :: r) (by simp)
            omega
        have HJn := Lib.hid (joinLib_any wr _ ao cp k ws hown.out (by omega) hjb)
        have HJl := Lib.hid hjl
        obtain ⟨lg, hlg⟩ : ∃ lg : Int, lg = (longOf ws : Nat) := ⟨_, rfl⟩
        rw [← hlg]
        have hlg0 : 0 ≤ lg := by omega
        have hlg1 : lg ≤ 301 * (k : Int) := by omega
        have HLG := Lib.hid hlg
        have hk4 : k ≤ 4096 := by omega
        clear hall hWW hwl hjl hjb hlg hke
        go_wp2_with (go_at_call 13; refine HJn.out.mono ?_; rintro e w2 ⟨rfl, hk2⟩)
        · go_returns
          have h1 := HJl.out
          have h2 := HLG.out
          exact ⟨.bad (HJM.out.trans (HC.out.trans (if_pos (by omega)))) rfl, hk⟩
        · go_returns
          have h1 := HJl.out
          have h2 := HLG.out
          exact ⟨.good (HJM.out.trans (HC.out.trans (if_neg (by omega)))) rfl, hk.then hk2⟩

end Go.Proofs.YtfoeadiejcheiaaDoor
