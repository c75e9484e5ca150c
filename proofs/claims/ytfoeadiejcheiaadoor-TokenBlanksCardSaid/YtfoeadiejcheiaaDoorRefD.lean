/- Contract of the reference's Join. Conditions: those of each theorem. -/
import Derived.Test.YtfoeadiejcheiaaDoorRefC
import Derived.Test.YtfoeadiejcheiaaDoorRefB
namespace Go.Proofs.YtfoeadiejcheiaaDoor
open Go.RowKit

theorem rtU8 : RowTy Tryd.prog 43 5 1 1 := ⟨by kernel_rfl, by kernel_rfl, by decide⟩

set_option maxHeartbeats 8000000 in
set_option maxRecDepth 100000 in
theorem refJoin_some (l : List TokR) (bk o cap : Nat) (w : World) (hok : ∀ x ∈ l, x.ok) (hsl : TokSl w bk o l) (hl : l.length ≤ cap) (hcap : cap ≤ 9223372036854775807) (hne : l ≠ []) :
    Calls Tryd.prog 8 #[.slice (some ⟨bk, o, none⟩) l.length cap] w fun e w' => JoinOut (joinM l) e ∧ Keeps [] w w' := by
  have hk0 := Keeps.refl [] w
  obtain ⟨n, hn⟩ : ∃ n, l.length = n + 1 := ⟨l.length - 1, by have := List.length_pos_iff.2 hne; omega⟩
  obtain ⟨x, hx⟩ : ∃ x, l[n]? = some x := ⟨l[n], List.getElem?_eq_getElem (by omega)⟩
  obtain ⟨c0, c1, c2, c3⟩ := hsl n x hx
  have hbkl := World.block_lt_of_cell? w _ c0
  have q1 : IntKind.i64.wrap (((n + 1 : Nat) : Int) - 1) = (n : Int) := (IntWalk.i64_in _ (by omega)).trans (by omega)
  have HS := Lib.hid hsl
  have HE := Lib.hid (fun h => jm_end hn hx h)
  have HJ := Lib.hid (fun h => jm_not hn hx h)
  have HOk := Lib.hid hok
  have HX := Lib.hid hx
  clear hsl hok hx hne
  rw [hn]
  rw [hn] at hl
  have HN := Lib.hid hn
  clear hn
  obtain ⟨ui, hu1, hu2, hu3, hu4⟩ := u8_info
  have HU := Lib.hid (And.intro hu1 (And.intro hu2 (And.intro hu3 hu4)))
  clear hu1 hu2 hu3 hu4
  go_enter Tryd.func8, Tryd.ntmps8
  go_wp2_with fail
  · go_returns
    refine ⟨.bad ((HE.out (eq_of_beq ‹_›)).trans (if_pos ⟨by omega, .inr (by rename_i h; rw [bne_iff_ne] at h; exact h)⟩)) rfl, hk0.alloc _⟩
  · have hkd := eq_of_beq ‹(x.kind == 0) = true›
    have hsz0 : x.s.size = 0 := by
      have h : x.s.toList = [] := by assumption
      rw [ByteArray.toList_eq] at h
      have h2 := congrArg List.length h
      exact h2
    have hn0 : x.n = 0 := by
      have h : (x.n != 0) = false := by assumption
      simpa using h
    have HJM : Hid (joinM l = joinCore l.dropLast) := Lib.hid ((HE.out hkd).trans (if_neg (by rw [hsz0, hn0]; simp)))
    have HSL : Hid (TokSl w bk o l.dropLast) := Lib.hid (fun j y hy => HS.out j y (by
      have hj : j < l.dropLast.length := by
        rcases Nat.lt_or_ge j l.dropLast.length with h | h
        · exact h
        · rw [List.getElem?_eq_none h] at hy; cases hy
      rw [List.getElem?_dropLast] at hy
      split at hy
      · exact hy
      · cases hy))
    have HOL : Hid (∀ y ∈ l.dropLast, y.ok) := Lib.hid (fun y hy => HOk.out y (List.dropLast_subset l hy))
    have HL : Hid (l.dropLast.length = n) := Lib.hid (by rw [List.length_dropLast, HN.out]; rfl)
    have hq : (x.n != 0) = false := by assumption
    try rw [hq]
    clear hkd hsz0 hn0
    clear c0 c1 c2 c3 HE HJ HX HN HS HOk
    go_loopw [5, 6] (fun b_ i wr_ => ∃ (k : Nat) (ws : List (List UInt8)) (ao : Option Addr) (cp : Nat) (B : ByteArray), k ≤ n ∧ i = .int .i64 k ∧ b_ = .slice ao B.size cp ∧ B.size ≤ 301 * k ∧ Hid (B = ⟨(joinW ws).toArray⟩) ∧ Hid (wrAll (l.dropLast.take k) = some ws) ∧ Hid (wr_.ownsRow w.heap.size 5 1 (.slice ao B.size cp) B.size (Lib.strCells B)) ∧ Keeps [] w wr_) (fun _ i _ => n - (intOf i).toNat)
    case atStart => exact ⟨0, [], none, 0, ⟨#[]⟩, Nat.zero_le _, rfl, rfl, (by decide), Lib.hid rfl, Lib.hid rfl, Lib.hid ⟨rfl, .inl ⟨rfl, rfl⟩⟩, hk0.alloc _⟩
    case round =>
      obtain ⟨k, ws, ao, cp, B, hkm, rfl, rfl, hlo, hB, hW, hown, hk⟩ := hrel
      by_cases hlt : k < n
      · have d1 : decide ((k : Int) < (n : Int)) = true := by simp; omega
        obtain ⟨y, hy⟩ : ∃ y, l.dropLast[k]? = some y := ⟨l.dropLast[k]'(by rw [HL.out]; omega), List.getElem?_eq_getElem _⟩
        obtain ⟨y0, y1, y2, y3⟩ := (HSL.out.keep hk) k y hy
        have hyo := HOL.out y (List.mem_of_getElem? hy)
        have HWr := fun w => Lib.hid (refWritten_any y.kind y.n y.at_ y.s w ⟨hyo.1, hyo.2.1⟩ hyo.2.2)
        have hbase : w.heap.size ≤ wr.heap.size := hk.size
        cases hwy : wtn y with
        | none =>
          have HB := Lib.hid (core_bad (by rw [HL.out]; omega) (List.mem_of_getElem? hy) hwy)
          have HF : ∀ w, Hid (Calls Tryd.prog 14 #[.agg #[.int .i64 y.kind, .string y.s, .int .i64 y.n, .int .i64 y.at_]] w fun e w' => (∃ r : ByteArray, e = .returned (.tuple #[.string r, .bool false])) ∧ Keeps [] w w') := fun w => Lib.hid ((HWr w).out.mono fun e w' ⟨h1, h2⟩ => ⟨(by
            rcases h1.split with ⟨_, h⟩ | ⟨a, ha, _⟩
            · exact h
            · rw [hwy] at ha; cases ha), h2⟩)
          clear hy hyo HWr hwy
          go_wp2_with (go_at_call 14; refine (HF _).out.mono ?_; rintro e w2 ⟨⟨r, rfl⟩, hk2⟩)
          go_returns
          exact ⟨.bad (HJM.out.trans HB.out) rfl, hk.then hk2⟩
        | some a =>
          have HF : ∀ w, Hid (Calls Tryd.prog 14 #[.agg #[.int .i64 y.kind, .string y.s, .int .i64 y.n, .int .i64 y.at_]] w fun e w' => e = .returned (.tuple #[.string ⟨a.toArray⟩, .bool true]) ∧ Keeps [] w w') := fun w => Lib.hid ((HWr w).out.mono fun e w' ⟨h1, h2⟩ => ⟨(by
            rcases h1.split with ⟨h, _⟩ | ⟨a', ha, h⟩
            · rw [hwy] at h; cases h
            · rw [hwy] at ha; cases ha; exact h), h2⟩)
          have hal := wtn_len hwy
          have hlk : k < l.dropLast.length := by rw [HL.out]; omega
          have HT : Hid (wrAll (l.dropLast.take (k + 1)) = some (ws ++ [a])) := Lib.hid (by
            have hyk : l.dropLast[k] = y := by rw [List.getElem?_eq_getElem hlk] at hy; exact Option.some.inj hy
            rw [List.take_succ_eq_append_getElem hlk, wrAll_snoc, hW.out, hyk, hwy])
          have hwl : ws.length = k := (wrAll_long hW.out).1.trans (by rw [List.length_take]; omega)
          have HWL := Lib.hid hwl
          obtain ⟨r, hr⟩ : ∃ r : ByteArray, r = ⟨a.toArray⟩ := ⟨_, rfl⟩
          have hrs : r.size ≤ 300 := by rw [hr]; show a.toArray.size ≤ 300; simp; omega
          rw [← hr] at HF
          have HRr := Lib.hid hr
          have hk4 : k ≤ 4096 := by omega
          clear hy hyo HWr hwy hr hwl hlk
          by_cases hk0' : k = 0
          · have d2 : ¬ 0 < k := by omega
            have hB0 : Hid (B = ⟨#[]⟩ ∧ ws = []) := Lib.hid (by
              have h1 : ws = [] := List.eq_nil_of_length_eq_zero (by rw [HWL.out]; exact hk0')
              exact ⟨by rw [hB.out, h1]; rfl, h1⟩)
            have HK0 := Lib.hid hk0'
            clear hk0'
            go_wp2_with (first
              | (go_at_call 14; refine (HF _).out.mono ?_; rintro e w2 ⟨rfl, hk2⟩; have hkb := hk2.size)
              | (at_builtin; refine Lib.wpList_append_own_string _ (by rfl) _ _ _ _ (by rfl) w.heap.size 5 ui Tryd.underlying43 Tryd.underlying9 HU.out.1 HU.out.2.1 HU.out.2.2.1 HU.out.2.2.2 _ B.size (Lib.strCells B) (by rfl) (own_kept hown.out hk2 (by simp)) r (by rfl) (by unfold maxLen; omega) (by omega) (by omega) ?_; intro v3 w3 hown3 hgrow3 hnil3; obtain ⟨ao3, cp3, rfl⟩ := own_form hown3; have HO3 := Lib.hid hown3; clear hown3; have hk3 : Keeps [] w w3 := ((hk.then hk2).grown hgrow3 (fun k h => .inr (own_ge hown.out h)))))
            have hBB : B ++ r = ⟨(joinW (ws ++ [a])).toArray⟩ := by
              rw [hB0.out.1, hB0.out.2, HRr.out]
              apply ByteArray.ext
              simp [joinW]
            have hsz : (B ++ r).size = B.size + r.size := ByteArray.size_append
            have hbs0 : B.size = 0 := by rw [hB0.out.1]; rfl
            have hfin := HO3.out
            rw [← strCells_app, ← hsz] at hfin
            rw [← hsz]
            exact ⟨⟨k + 1, ws ++ [a], ao3, cp3, B ++ r, by omega, by simp, rfl, by omega, Lib.hid hBB, HT, Lib.hid hfin, hk3⟩, by simp only [intOf]; omega⟩
          · have d2 : 0 < k := by omega
            go_wp2_with (first
              | (go_at_call 14; refine (HF _).out.mono ?_; rintro e w2 ⟨rfl, hk2⟩; have hkb := hk2.size)
              | (at_builtin; refine list_append_any rtU8 (by rfl) _ _ (by rfl) w.heap.size _ B.size (Lib.strCells B) (by rfl) ((own_kept hown.out hk2 (by simp)).alloc _) _ 1 [.int .u8 32] (by rfl) (SlC.of_block (cs := #[.int .u8 32]) (t := 5) (fr := (0, 0)) (heap_alloc_new _ _) (by rfl)) (by simp [Value.oneCell']) (by omega) (by unfold maxLen; omega) (by simp; omega) ?_; intro ao4 cp4 w4 hown4 hgrow4 hat4 hnil4; have HO4 := Lib.hid hown4; clear hown4; have hk4' : Keeps [] w w4 := ((hk.then hk2).alloc _).grown hgrow4 (fun k h => .inr (own_ge hown.out h)); have hkc := hk4'.size)
              | (at_builtin; refine Lib.wpList_append_own_string _ (by rfl) _ _ _ _ (by rfl) w.heap.size 5 ui Tryd.underlying43 Tryd.underlying9 HU.out.1 HU.out.2.1 HU.out.2.2.1 HU.out.2.2.2 _ (B.size + 1) (Lib.strCells B ++ [.int .u8 32]) (by rfl) HO4.out r (by rfl) (by unfold maxLen; omega) (by omega) (by omega) ?_; intro v3 w3 hown3 hgrow3 hnil3; obtain ⟨ao3, cp3, rfl⟩ := own_form hown3; have HO3 := Lib.hid hown3; clear hown3; have hk3 : Keeps [] w w3 := (hk4'.grown hgrow3 (fun k h => .inr (own_ge HO4.out h)))))
            have hwne : ws ≠ [] := by
              intro h
              have := HWL.out
              rw [h] at this
              exact hk0' this.symm
            have hBB : B ++ ⟨#[32]⟩ ++ r = ⟨(joinW (ws ++ [a])).toArray⟩ := by
              rw [joinW_snoc, if_neg hwne, hB.out, HRr.out]
              apply ByteArray.ext
              simp
            have hsz : (B ++ ⟨#[32]⟩ ++ r).size = B.size + 1 + r.size := by rw [ByteArray.size_append, ByteArray.size_append]; rfl
            have hfin := HO3.out
            have e32 : Lib.strCells B ++ [Value.int .u8 32] ++ Lib.strCells r = Lib.strCells (B ++ ⟨#[32]⟩ ++ r) := by rw [strCells_app, strCells_app]; rfl
            rw [e32, ← hsz] at hfin
            rw [← hsz]
            exact ⟨⟨k + 1, ws ++ [a], ao3, cp3, B ++ ⟨#[32]⟩ ++ r, by omega, by simp, rfl, by omega, Lib.hid hBB, HT, Lib.hid hfin, hk3⟩, by simp only [intOf]; omega⟩
      · have hke : k = n := by omega
        have d1 : decide ((k : Int) < (n : Int)) = false := by simp; omega
        have hall : l.dropLast.take k = l.dropLast := List.take_of_length_le (by rw [HL.out, hke]; exact Nat.le_refl _)
        have hWW := hW.out
        rw [hall] at hWW
        have hBs : B.size = (joinW ws).length := by rw [hB.out]; show (joinW ws).toArray.size = _; simp
        have hC := core_all (by rw [HL.out]; omega) hWW
        rw [← hBs] at hC
        have HC := Lib.hid hC
        have hcv := conv_own hown.out
        clear hall hWW hke hC hBs
        go_wp2_with fail
        · go_returns
          exact ⟨.bad (HJM.out.trans (HC.out.trans (if_pos (by omega)))) rfl, hk⟩
        · go_returns
          refine ⟨.good (HJM.out.trans (HC.out.trans (if_neg (by omega)))) ?_, hk⟩
          exact congrArg (fun b => Ending.returned (.tuple #[.string b, .int .i64 0])) hB.out
  · go_returns
    refine ⟨.bad ((HE.out (eq_of_beq ‹_›)).trans (if_pos ⟨by omega, .inl (fun h0 => (by assumption : ¬ x.s.toList = []) (by rw [ByteArray.toList_eq]; exact List.eq_nil_of_length_eq_zero h0))⟩)) rfl, hk0.alloc _⟩
  · go_returns
    refine ⟨.bad ((HE.out (eq_of_beq ‹_›)).trans ((if_neg (by omega)).trans (core_long (by rw [List.length_dropLast, HN.out]; omega)))) rfl, hk0.alloc _⟩
  · go_returns
    refine ⟨.bad ((HJ.out (by simpa using ‹(x.kind == 0) = false›)).trans (core_long (by rw [HN.out]; omega))) rfl, hk0⟩
  · have hkd : x.kind ≠ 0 := by simpa using ‹(x.kind == 0) = false›
    have HJM : Hid (joinM l = joinCore l) := Lib.hid (HJ.out hkd)
    have HSL := HS
    have HOL := HOk
    have HL := HN
    have hq : (x.kind == 0) = false := by assumption
    try rw [hq]
    clear hkd
    clear c0 c1 c2 c3 HE HJ HX HN HS HOk
    go_loopw [5, 6] (fun b_ i wr_ => ∃ (k : Nat) (ws : List (List UInt8)) (ao : Option Addr) (cp : Nat) (B : ByteArray), k ≤ (n + 1) ∧ i = .int .i64 k ∧ b_ = .slice ao B.size cp ∧ B.size ≤ 301 * k ∧ Hid (B = ⟨(joinW ws).toArray⟩) ∧ Hid (wrAll (l.take k) = some ws) ∧ Hid (wr_.ownsRow w.heap.size 5 1 (.slice ao B.size cp) B.size (Lib.strCells B)) ∧ Keeps [] w wr_) (fun _ i _ => (n + 1) - (intOf i).toNat)
    case atStart => exact ⟨0, [], none, 0, ⟨#[]⟩, Nat.zero_le _, rfl, rfl, (by decide), Lib.hid rfl, Lib.hid rfl, Lib.hid ⟨rfl, .inl ⟨rfl, rfl⟩⟩, hk0⟩
    case round =>
      obtain ⟨k, ws, ao, cp, B, hkm, rfl, rfl, hlo, hB, hW, hown, hk⟩ := hrel
      by_cases hlt : k < (n + 1)
      · have d1 : decide ((k : Int) < (n : Int) + 1) = true := by simp; omega
        obtain ⟨y, hy⟩ : ∃ y, l[k]? = some y := ⟨l[k]'(by rw [HL.out]; omega), List.getElem?_eq_getElem _⟩
        obtain ⟨y0, y1, y2, y3⟩ := (HSL.out.keep hk) k y hy
        have hyo := HOL.out y (List.mem_of_getElem? hy)
        have HWr := fun w => Lib.hid (refWritten_any y.kind y.n y.at_ y.s w ⟨hyo.1, hyo.2.1⟩ hyo.2.2)
        have hbase : w.heap.size ≤ wr.heap.size := hk.size
        cases hwy : wtn y with
        | none =>
          have HB := Lib.hid (core_bad (by rw [HL.out]; omega) (List.mem_of_getElem? hy) hwy)
          have HF : ∀ w, Hid (Calls Tryd.prog 14 #[.agg #[.int .i64 y.kind, .string y.s, .int .i64 y.n, .int .i64 y.at_]] w fun e w' => (∃ r : ByteArray, e = .returned (.tuple #[.string r, .bool false])) ∧ Keeps [] w w') := fun w => Lib.hid ((HWr w).out.mono fun e w' ⟨h1, h2⟩ => ⟨(by
            rcases h1.split with ⟨_, h⟩ | ⟨a, ha, _⟩
            · exact h
            · rw [hwy] at ha; cases ha), h2⟩)
          clear hy hyo HWr hwy
          go_wp2_with (go_at_call 14; refine (HF _).out.mono ?_; rintro e w2 ⟨⟨r, rfl⟩, hk2⟩)
          go_returns
          exact ⟨.bad (HJM.out.trans HB.out) rfl, hk.then hk2⟩
        | some a =>
          have HF : ∀ w, Hid (Calls Tryd.prog 14 #[.agg #[.int .i64 y.kind, .string y.s, .int .i64 y.n, .int .i64 y.at_]] w fun e w' => e = .returned (.tuple #[.string ⟨a.toArray⟩, .bool true]) ∧ Keeps [] w w') := fun w => Lib.hid ((HWr w).out.mono fun e w' ⟨h1, h2⟩ => ⟨(by
            rcases h1.split with ⟨h, _⟩ | ⟨a', ha, h⟩
            · rw [hwy] at h; cases h
            · rw [hwy] at ha; cases ha; exact h), h2⟩)
          have hal := wtn_len hwy
          have hlk : k < l.length := by rw [HL.out]; omega
          have HT : Hid (wrAll (l.take (k + 1)) = some (ws ++ [a])) := Lib.hid (by
            have hyk : l[k] = y := by rw [List.getElem?_eq_getElem hlk] at hy; exact Option.some.inj hy
            rw [List.take_succ_eq_append_getElem hlk, wrAll_snoc, hW.out, hyk, hwy])
          have hwl : ws.length = k := (wrAll_long hW.out).1.trans (by rw [List.length_take]; omega)
          have HWL := Lib.hid hwl
          obtain ⟨r, hr⟩ : ∃ r : ByteArray, r = ⟨a.toArray⟩ := ⟨_, rfl⟩
          have hrs : r.size ≤ 300 := by rw [hr]; show a.toArray.size ≤ 300; simp; omega
          rw [← hr] at HF
          have HRr := Lib.hid hr
          have hk4 : k ≤ 4096 := by omega
          clear hy hyo HWr hwy hr hwl hlk
          by_cases hk0' : k = 0
          · have d2 : ¬ 0 < k := by omega
            have hB0 : Hid (B = ⟨#[]⟩ ∧ ws = []) := Lib.hid (by
              have h1 : ws = [] := List.eq_nil_of_length_eq_zero (by rw [HWL.out]; exact hk0')
              exact ⟨by rw [hB.out, h1]; rfl, h1⟩)
            have HK0 := Lib.hid hk0'
            clear hk0'
            go_wp2_with (first
              | (go_at_call 14; refine (HF _).out.mono ?_; rintro e w2 ⟨rfl, hk2⟩; have hkb := hk2.size)
              | (at_builtin; refine Lib.wpList_append_own_string _ (by rfl) _ _ _ _ (by rfl) w.heap.size 5 ui Tryd.underlying43 Tryd.underlying9 HU.out.1 HU.out.2.1 HU.out.2.2.1 HU.out.2.2.2 _ B.size (Lib.strCells B) (by rfl) (own_kept hown.out hk2 (by simp)) r (by rfl) (by unfold maxLen; omega) (by omega) (by omega) ?_; intro v3 w3 hown3 hgrow3 hnil3; obtain ⟨ao3, cp3, rfl⟩ := own_form hown3; have HO3 := Lib.hid hown3; clear hown3; have hk3 : Keeps [] w w3 := ((hk.then hk2).grown hgrow3 (fun k h => .inr (own_ge hown.out h)))))
            have hBB : B ++ r = ⟨(joinW (ws ++ [a])).toArray⟩ := by
              rw [hB0.out.1, hB0.out.2, HRr.out]
              apply ByteArray.ext
              simp [joinW]
            have hsz : (B ++ r).size = B.size + r.size := ByteArray.size_append
            have hbs0 : B.size = 0 := by rw [hB0.out.1]; rfl
            have hfin := HO3.out
            rw [← strCells_app, ← hsz] at hfin
            rw [← hsz]
            exact ⟨⟨k + 1, ws ++ [a], ao3, cp3, B ++ r, by omega, by simp, rfl, by omega, Lib.hid hBB, HT, Lib.hid hfin, hk3⟩, by simp only [intOf]; omega⟩
          · have d2 : 0 < k := by omega
            go_wp2_with (first
              | (go_at_call 14; refine (HF _).out.mono ?_; rintro e w2 ⟨rfl, hk2⟩; have hkb := hk2.size)
              | (at_builtin; refine list_append_any rtU8 (by rfl) _ _ (by rfl) w.heap.size _ B.size (Lib.strCells B) (by rfl) ((own_kept hown.out hk2 (by simp)).alloc _) _ 1 [.int .u8 32] (by rfl) (SlC.of_block (cs := #[.int .u8 32]) (t := 5) (fr := (0, 0)) (heap_alloc_new _ _) (by rfl)) (by simp [Value.oneCell']) (by omega) (by unfold maxLen; omega) (by simp; omega) ?_; intro ao4 cp4 w4 hown4 hgrow4 hat4 hnil4; have HO4 := Lib.hid hown4; clear hown4; have hk4' : Keeps [] w w4 := ((hk.then hk2).alloc _).grown hgrow4 (fun k h => .inr (own_ge hown.out h)); have hkc := hk4'.size)
              | (at_builtin; refine Lib.wpList_append_own_string _ (by rfl) _ _ _ _ (by rfl) w.heap.size 5 ui Tryd.underlying43 Tryd.underlying9 HU.out.1 HU.out.2.1 HU.out.2.2.1 HU.out.2.2.2 _ (B.size + 1) (Lib.strCells B ++ [.int .u8 32]) (by rfl) HO4.out r (by rfl) (by unfold maxLen; omega) (by omega) (by omega) ?_; intro v3 w3 hown3 hgrow3 hnil3; obtain ⟨ao3, cp3, rfl⟩ := own_form hown3; have HO3 := Lib.hid hown3; clear hown3; have hk3 : Keeps [] w w3 := (hk4'.grown hgrow3 (fun k h => .inr (own_ge HO4.out h)))))
            have hwne : ws ≠ [] := by
              intro h
              have := HWL.out
              rw [h] at this
              exact hk0' this.symm
            have hBB : B ++ ⟨#[32]⟩ ++ r = ⟨(joinW (ws ++ [a])).toArray⟩ := by
              rw [joinW_snoc, if_neg hwne, hB.out, HRr.out]
              apply ByteArray.ext
              simp
            have hsz : (B ++ ⟨#[32]⟩ ++ r).size = B.size + 1 + r.size := by rw [ByteArray.size_append, ByteArray.size_append]; rfl
            have hfin := HO3.out
            have e32 : Lib.strCells B ++ [Value.int .u8 32] ++ Lib.strCells r = Lib.strCells (B ++ ⟨#[32]⟩ ++ r) := by rw [strCells_app, strCells_app]; rfl
            rw [e32, ← hsz] at hfin
            rw [← hsz]
            exact ⟨⟨k + 1, ws ++ [a], ao3, cp3, B ++ ⟨#[32]⟩ ++ r, by omega, by simp, rfl, by omega, Lib.hid hBB, HT, Lib.hid hfin, hk3⟩, by simp only [intOf]; omega⟩
      · have hke : k = (n + 1) := by omega
        have d1 : decide ((k : Int) < (n : Int) + 1) = false := by simp; omega
        have hall : l.take k = l := List.take_of_length_le (by rw [HL.out, hke]; exact Nat.le_refl _)
        have hWW := hW.out
        rw [hall] at hWW
        have hBs : B.size = (joinW ws).length := by rw [hB.out]; show (joinW ws).toArray.size = _; simp
        have hC := core_all (by rw [HL.out]; omega) hWW
        rw [← hBs] at hC
        have HC := Lib.hid hC
        have hcv := conv_own hown.out
        clear hall hWW hke hC hBs
        go_wp2_with fail
        · go_returns
          exact ⟨.bad (HJM.out.trans (HC.out.trans (if_pos (by omega)))) rfl, hk⟩
        · go_returns
          refine ⟨.good (HJM.out.trans (HC.out.trans (if_neg (by omega)))) ?_, hk⟩
          exact congrArg (fun b => Ending.returned (.tuple #[.string b, .int .i64 0])) hB.out

end Go.Proofs.YtfoeadiejcheiaaDoor
