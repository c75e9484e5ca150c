/- What a condition is reckoned with: the closures of Holds. Conditions: those of each theorem. -/
import Derived.Test.YtefcmijobbgpbaaGreatDoorExM
import Derived.Test.YtefcmijobbgpbaaGreatDoorExO
import Derived.Laws.EntriesVeiled
namespace Go.Proofs.YtefcmijobbgpbaaGreatDoor
open Go.RowKit

structure EvR where
  key : ByteArray
  typ : ByteArray
  n0 : Int
  n1 : Int
  n2 : Int
  n3 : Int
  text : ByteArray

instance : Inhabited EvR := ⟨⟨⟨#[]⟩, ⟨#[]⟩, 0, 0, 0, 0, ⟨#[]⟩⟩⟩

def evRow (e : EvR) : Array Value := #[.string e.key, .string e.typ, .int .i64 e.n0, .int .i64 e.n1, .int .i64 e.n2, .int .i64 e.n3, .string e.text]
def evNum (e : EvR) (f : Int) : Int := if f = 0 then e.n0 else if f = 1 then e.n1 else if f = 2 then e.n2 else e.n3
def evVal (e : EvR) (f : Int) : ValR := if f = 4 then .text e.typ else if f = 5 then .text e.text else .num (evNum e f)

/-- A field, by the stages' events. -/
def getM (e : EvR) (names : List ByteArray) (last : List EvR) (s : ByteArray) (f : Int) : ValR :=
  if s.data.toList = [] then evVal e f else evVal (last.getD (idxFrom s names 0).toNat default) f

/-- A slice of events, as it reads. -/
def EvSl (w : World) (bk o : Nat) (l : List EvR) : Prop :=
  ∀ (j : Nat) (x : EvR), l[j]? = some x → w.cell? ⟨bk, o + j * 7, none⟩ = some (.string x.key) ∧ w.cell? ⟨bk, o + j * 7 + 1, none⟩ = some (.string x.typ) ∧ w.cell? ⟨bk, o + j * 7 + 2, none⟩ = some (.int .i64 x.n0) ∧ w.cell? ⟨bk, o + j * 7 + 3, none⟩ = some (.int .i64 x.n1) ∧
    w.cell? ⟨bk, o + j * 7 + 4, none⟩ = some (.int .i64 x.n2) ∧ w.cell? ⟨bk, o + j * 7 + 5, none⟩ = some (.int .i64 x.n3) ∧ w.cell? ⟨bk, o + j * 7 + 6, none⟩ = some (.string x.text)

theorem EvSl.keep {w w' : World} {S : List Nat} {bk o : Nat} {l : List EvR} (h : EvSl w bk o l) (k : Keeps S w w') (hn : bk ∉ S) : EvSl w' bk o l := fun j x hx => by
  obtain ⟨h0, h1, h2, h3, h4, h5, h6⟩ := h j x hx
  exact ⟨k.cell h0 hn, k.cell h1 hn, k.cell h2 hn, k.cell h3 hn, k.cell h4 hn, k.cell h5 hn, k.cell h6 hn⟩

def ArgEv (w : World) (v : Value) (l : List EvR) : Prop :=
  ∃ ao cap, v = .slice ao l.length cap ∧ (ao = none → cap = 0 ∧ l = []) ∧ (l ≠ [] → ∃ bk o, ao = some ⟨bk, o, none⟩ ∧ EvSl w bk o l ∧ l.length ≤ cap ∧ cap ≤ 9223372036854775807)

theorem ArgEv.keep {w w' : World} {v : Value} {l : List EvR} (h : ArgEv w v l) (k : Keeps [] w w') : ArgEv w' v l := by
  obtain ⟨ao, cap, rfl, h1, h2⟩ := h
  refine ⟨ao, cap, rfl, h1, fun hne => ?_⟩
  obtain ⟨bk, o, rfl, h3, h4⟩ := h2 hne
  exact ⟨bk, o, rfl, h3.keep k (by simp), h4⟩

/-- Where the first text stands that is not among the names; -1: nowhere. -/
def missFrom (names : List ByteArray) : List ByteArray → Nat → Int
  | [], _ => -1
  | x :: r, k => if hasM names x then missFrom names r (k + 1) else (k : Int)
def missM (names L : List ByteArray) : Bool := decide (missFrom names L 0 ≥ 0)

theorem missFrom_step {names L : List ByteArray} {k : Nat} {x : ByteArray} (hx : L[k]? = some x) (n : Nat) : missFrom names (L.drop k) n = if hasM names x then missFrom names (L.drop (k + 1)) (n + 1) else (n : Int) := by
  have hk : k < L.length := by
    rcases Nat.lt_or_ge k L.length with h | h
    · exact h
    · rw [List.getElem?_eq_none h] at hx; cases hx
  rw [List.drop_eq_getElem_cons hk]
  have e : L[k] = x := by rw [List.getElem?_eq_getElem hk] at hx; exact Option.some.inj hx
  rw [e]
  rfl

set_option maxHeartbeats 4000000 in
set_option maxRecDepth 100000 in
/-- The closure that asks whether a stage is not there. -/
theorem notHas_any (names : List ByteArray) (s : ByteArray) (NB : Nat) (vn : Value) (w : World) (hN : w.cell? ⟨NB, 0, none⟩ = some vn) (hA : ArgStr w vn names) :
    Calls Tryz.prog 32 #[.string s, .pointer (some ⟨NB, 0, none⟩)] w fun e w' => e = .returned (.bool (!hasM names s)) ∧ Keeps [] w w' := by
  have hk0 := Keeps.refl [] w
  have HC := Lib.hid (contains_any names vn _ s rfl w hA)
  obtain ⟨ao, cap, rfl, _, _⟩ := hA
  generalize hasM names s = b at *
  obtain ⟨n, hn⟩ : ∃ n, names.length = n := ⟨_, rfl⟩
  rw [hn] at HC hN
  clear hn
  go_enter Tryz.func32, Tryz.ntmps32
  go_wp2_with (go_at_call 30; refine HC.out.mono ?_; rintro e w2 ⟨rfl, rfl⟩)
  go_returns
  exact ⟨rfl, hk0⟩

set_option maxHeartbeats 4000000 in
set_option maxRecDepth 100000 in
theorem missIdx_any (names L : List ByteArray) (NB : Nat) (vn v : Value) (w : World) (hN : w.cell? ⟨NB, 0, none⟩ = some vn) (hA : ArgStr w vn names) (hv : ArgStr w v L) :
    Calls Tryz.prog 52 #[v, .func (.func 32) #[] #[.pointer (some ⟨NB, 0, none⟩)]] w fun e w' => e = .returned (.int .i64 (missFrom names L 0)) ∧ Keeps [] w w' := by
  have hk0 := Keeps.refl [] w
  have HN := Lib.hid hN
  have HA := Lib.hid hA
  obtain ⟨ao, cap, rfl, _, h2⟩ := hv
  have H2 := Lib.hid h2
  obtain ⟨n, hn⟩ : ∃ n, L.length = n := ⟨_, rfl⟩
  rw [hn]
  have HL := Lib.hid hn
  clear hN hA h2 hn
  go_enter Tryz.func52, Tryz.ntmps52
  go_wp2_with fail
  go_loopw [8] (fun i wr => ∃ k : Nat, k ≤ n ∧ i = .int .i64 k ∧ Hid (missFrom names L 0 = missFrom names (L.drop k) k) ∧ Keeps [] w wr) (fun i _ => n - (intOf i).toNat)
  case atStart => exact ⟨0, Nat.zero_le _, rfl, Lib.hid rfl, hk0⟩
  case round =>
    clear hk0
    obtain ⟨k, hkn, rfl, hI, hk⟩ := hrel
    by_cases hlt : k < n
    · have d1 : decide ((k : Int) < (n : Int)) = true := by simp; omega
      obtain ⟨x, hx⟩ : ∃ x, L[k]? = some x := ⟨L[k]'(by rw [HL.out]; omega), List.getElem?_eq_getElem _⟩
      obtain ⟨bk, o, rfl, hsl, hcl, hcr⟩ := H2.out (by intro e; rw [e] at hx; cases hx)
      rw [HL.out] at hcl
      have c0 := hk.cell (hsl k x hx) (by simp)
      have HST := Lib.hid (missFrom_step (names := names) hx k)
      have HH := Lib.hid (notHas_any names x NB vn wr (hk.cell HN.out (by simp)) (HA.out.keep hk))
      clear hsl hx
      cases hb : hasM names x with
      | true =>
        have HNX := Lib.hid (HST.out.trans (if_pos hb))
        rw [hb] at HH
        clear hb HST
        go_wp2_with (go_at_call 32; refine HH.out.mono ?_; rintro e w3 ⟨rfl, hk3⟩)
        exact ⟨⟨k + 1, by omega, by simp, Lib.hid (hI.out.trans HNX.out), hk.then hk3⟩, by simp only [intOf]; omega⟩
      | false =>
        have HNX := Lib.hid (HST.out.trans (if_neg (by rw [hb]; simp)))
        rw [hb] at HH
        clear hb HST
        go_wp2_with (go_at_call 32; refine HH.out.mono ?_; rintro e w3 ⟨rfl, hk3⟩)
        go_returns
        exact ⟨congrArg (fun z => Ending.returned (.int .i64 z)) (hI.out.trans HNX.out).symm, hk.then hk3⟩
    · have hke : k = n := by omega
      have d1 : decide ((k : Int) < (n : Int)) = false := by simp; omega
      have hE : missFrom names L 0 = -1 := by rw [hI.out, hke, ← HL.out]; simp [missFrom]
      have HE := Lib.hid hE
      clear hE
      go_wp2_with fail
      go_returns
      exact ⟨congrArg (fun z => Ending.returned (.int .i64 z)) HE.out.symm, hk⟩

set_option maxHeartbeats 4000000 in
set_option maxRecDepth 100000 in
theorem miss_any (names L : List ByteArray) (NB : Nat) (vn v : Value) (w : World) (hN : w.cell? ⟨NB, 0, none⟩ = some vn) (hA : ArgStr w vn names) (hv : ArgStr w v L) :
    Calls Tryz.prog 31 #[v, .func (.func 32) #[] #[.pointer (some ⟨NB, 0, none⟩)]] w fun e w' => e = .returned (.bool (missM names L)) ∧ Keeps [] w w' := by
  have HI := Lib.hid (missIdx_any names L NB vn v w hN hA hv)
  obtain ⟨ao, cap, rfl, _, _⟩ := hv
  obtain ⟨n, hn⟩ : ∃ n, L.length = n := ⟨_, rfl⟩
  have HM : Hid (missM names L = decide (missFrom names L 0 ≥ 0)) := Lib.hid rfl
  rw [HM.out]
  generalize missFrom names L 0 = z at *
  rw [hn] at HI ⊢
  clear hn hN hA HM
  go_enter Tryz.func31, Tryz.ntmps31
  go_wp2_with (go_at_call 52; refine HI.out.mono ?_; rintro e w2 ⟨rfl, hk2⟩)
  go_returns
  exact ⟨rfl, hk2⟩

end Go.Proofs.YtefcmijobbgpbaaGreatDoor
