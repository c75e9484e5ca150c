/- Expressions, plainly: parts, trees, kinds, tokens, values. -/
import Derived.Test.YtefcmijobbgpbaaGreatDoorT3
namespace Go.Proofs.YtefcmijobbgpbaaGreatDoor
open Go.RowKit

structure PartR where
  kind : Int
  n : Int
  s : ByteArray
  stage : ByteArray
  field : Int

def PartR.ok (x : PartR) : Prop := -9223372036854775808 ≤ x.n ∧ x.n ≤ 9223372036854775807 ∧ x.s.size ≤ 140737488351232 ∧ x.stage.size ≤ 140737488351232

def partRow (x : PartR) : List Value := [.int .i64 x.kind, .int .i64 x.n, .string x.s, .string x.stage, .int .i64 x.field]
def partsRow (l : List PartR) : List Value := l.flatMap partRow

/-- A slice of parts, as it reads. -/
def PartSl (w : World) (bk o : Nat) (l : List PartR) : Prop :=
  ∀ (j : Nat) (x : PartR), l[j]? = some x → w.cell? ⟨bk, o + j * 5, none⟩ = some (.int .i64 x.kind) ∧ w.cell? ⟨bk, o + j * 5 + 1, none⟩ = some (.int .i64 x.n) ∧ w.cell? ⟨bk, o + j * 5 + 2, none⟩ = some (.string x.s) ∧ w.cell? ⟨bk, o + j * 5 + 3, none⟩ = some (.string x.stage) ∧ w.cell? ⟨bk, o + j * 5 + 4, none⟩ = some (.int .i64 x.field)

theorem PartSl.keep {w w' : World} {S : List Nat} {bk o : Nat} {l : List PartR} (h : PartSl w bk o l) (k : Keeps S w w') (hn : bk ∉ S) : PartSl w' bk o l := fun j x hx => by
  obtain ⟨h0, h1, h2, h3, h4⟩ := h j x hx
  exact ⟨k.cell h0 hn, k.cell h1 hn, k.cell h2 hn, k.cell h3 hn, k.cell h4 hn⟩

/-- A slice of parts that is an argument, or a result. -/
def ArgPart (w : World) (v : Value) (l : List PartR) : Prop :=
  ∃ ao cap, v = .slice ao l.length cap ∧ (ao = none → cap = 0 ∧ l = []) ∧ (l ≠ [] → ∃ bk o, ao = some ⟨bk, o, none⟩ ∧ PartSl w bk o l ∧ l.length ≤ cap ∧ cap ≤ 9223372036854775807)

theorem ArgPart.keep {w w' : World} {v : Value} {l : List PartR} (h : ArgPart w v l) (k : Keeps [] w w') : ArgPart w' v l := by
  obtain ⟨ao, cap, rfl, h1, h2⟩ := h
  refine ⟨ao, cap, rfl, h1, fun hne => ?_⟩
  obtain ⟨bk, o, rfl, h3, h4⟩ := h2 hne
  exact ⟨bk, o, rfl, h3.keep k (by simp), h4⟩

/-! ### Words -/
def bN0 : ByteArray := ⟨#[110, 48]⟩
def bN1 : ByteArray := ⟨#[110, 49]⟩
def bN2 : ByteArray := ⟨#[110, 50]⟩
def bN3 : ByteArray := ⟨#[110, 51]⟩
def bType : ByteArray := ⟨#[116, 121, 112, 101]⟩
def bText : ByteArray := ⟨#[116, 101, 120, 116]⟩
def bOr : ByteArray := ⟨#[111, 114]⟩
def bAnd : ByteArray := ⟨#[97, 110, 100]⟩
def bNot : ByteArray := ⟨#[110, 111, 116]⟩
def fieldWords : List ByteArray := [bN0, bN1, bN2, bN3, bType, bText]

/-- The place of a text in a list; -1: it is not there. -/
def idxFrom (v : ByteArray) : List ByteArray → Nat → Int
  | [], _ => -1
  | x :: r, k => if x.data.toList = v.data.toList then (k : Int) else idxFrom v r (k + 1)
def fieldI (s : ByteArray) : Int := idxFrom s fieldWords 0

def stageM (s : ByteArray) : Bool :=
  (match toksOf s with
    | .ok [(t, _)] => decide (t.kind = 1) && decide (t.s = s.data.toList)
    | _ => false) && decide (s.size ≤ 262144) && decide (fieldI s < 0) && decide (s.data.toList ≠ bOr.data.toList) && decide (s.data.toList ≠ bAnd.data.toList) && decide (s.data.toList ≠ bNot.data.toList)

def textM (s : ByteArray) : Bool := match joinM [⟨3, s, 0, 0⟩] with
  | .ok _ => true
  | .error _ => false

def isM (p : PartR) : Bool :=
  if p.kind = 1 then decide (0 ≤ p.n) && decide (p.s.data.toList = []) && decide (p.stage.data.toList = []) && decide (p.field = 0)
  else if p.kind = 2 then textM p.s && decide (p.n = 0) && decide (p.stage.data.toList = []) && decide (p.field = 0)
  else if p.kind = 3 then decide (p.n = 0) && decide (p.s.data.toList = []) && decide (0 ≤ p.field) && decide (p.field ≤ 5) && (decide (p.stage.data.toList = []) || stageM p.stage)
  else decide (4 ≤ p.kind) && decide (p.kind ≤ 13) && decide (p.n = 0) && decide (p.s.data.toList = []) && decide (p.stage.data.toList = []) && decide (p.field = 0)

/-! ### Operations -/
structure OpR where
  sign : ByteArray
  kind : Int
  level : Int
  of_ : Int
  other : Int
  is_ : Int

def opsL : List OpR :=
  [⟨⟨#[43]⟩, 4, 4, 1, 1, 1⟩, ⟨⟨#[45]⟩, 5, 4, 1, 1, 1⟩, ⟨⟨#[42]⟩, 6, 5, 1, 1, 1⟩, ⟨⟨#[60]⟩, 7, 3, 1, 1, 3⟩, ⟨⟨#[60, 61]⟩, 8, 3, 1, 1, 3⟩,
   ⟨⟨#[61, 61]⟩, 9, 3, 1, 2, 3⟩, ⟨⟨#[33, 61]⟩, 10, 3, 1, 2, 3⟩, ⟨bAnd, 11, 1, 3, 3, 3⟩, ⟨bOr, 12, 0, 3, 3, 3⟩]
def opN (k : Int) : Nat := (k - 4).toNat
def opAt (k : Int) : OpR := opsL.getD (opN k) ⟨⟨#[]⟩, 0, 0, 0, 0, 0⟩

/-! ### Trees -/
inductive Ex
  | leaf (p : PartR)
  | neg (p : PartR) (a : Ex)
  | bin (p : PartR) (a b : Ex)

def leafKind (p : PartR) : Int := if p.kind = 1 then 1 else if p.kind = 2 then 2 else if 4 ≤ p.field then 2 else 1

def Ex.kind : Ex → Int
  | .leaf p => leafKind p
  | .neg _ _ => 3
  | .bin p _ _ => (opAt p.kind).is_

def Ex.part : Ex → PartR
  | .leaf p => p
  | .neg p _ => p
  | .bin p _ _ => p

def Ex.parts : Ex → List PartR
  | .leaf p => [p]
  | .neg p a => p :: a.parts
  | .bin p a b => p :: (a.parts ++ b.parts)

def growM : Nat → List PartR → Option (Ex × List PartR)
  | 0, _ => none
  | _ + 1, [] => none
  | d + 1, p :: x =>
    if isM p = false then none
    else if p.kind ≤ 3 then some (.leaf p, x)
    else if p.kind = 13 then
      match growM d x with
      | none => none
      | some (a, x1) => if a.kind = 3 then some (.neg p a, x1) else none
    else
      match growM d x with
      | none => none
      | some (a, x1) =>
        match growM d x1 with
        | none => none
        | some (b, x2) => if a.kind = b.kind ∧ (a.kind = (opAt p.kind).of_ ∨ a.kind = (opAt p.kind).other) then some (.bin p a b, x2) else none

def wholeM (x : List PartR) : Option Ex :=
  if 200 < x.length then none
  else match growM 32 x with
    | some (t, []) => some t
    | _ => none

theorem growM_parts : ∀ {d : Nat} {x r : List PartR} {t : Ex}, growM d x = some (t, r) → x = t.parts ++ r
  | 0, x, r, t, h => by simp [growM] at h
  | d + 1, [], r, t, h => by simp [growM] at h
  | d + 1, p :: x, r, t, h => by
    simp only [growM] at h
    split at h
    · cases h
    · split at h
      · cases h; rfl
      · split at h
        · split at h
          · cases h
          · rename_i a x1 ha
            split at h
            · cases h
              rw [growM_parts ha]
              rfl
            · cases h
        · split at h
          · cases h
          · rename_i a x1 ha
            split at h
            · cases h
            · rename_i b x2 hb
              split at h
              · cases h
                rw [growM_parts ha, growM_parts hb]
                simp [Ex.parts]
              · cases h

theorem wholeM_parts {x : List PartR} {t : Ex} (h : wholeM x = some t) : x = t.parts ∧ x.length ≤ 200 := by
  unfold wholeM at h
  split at h
  · cases h
  · split at h
    · rename_i hl t' hg
      cases h
      have := growM_parts hg
      simp at this
      exact ⟨this, by omega⟩
    · cases h

/-! ### As tokens -/
def wordT (s : ByteArray) : TokR := ⟨1, s, 0, 0⟩
def signT (s : ByteArray) : TokR := ⟨4, s, 0, 0⟩
def bDot : ByteArray := ⟨#[46]⟩
def bOpen : ByteArray := ⟨#[40]⟩
def bShut : ByteArray := ⟨#[41]⟩
def fieldWord (f : Int) : ByteArray := fieldWords.getD f.toNat ⟨#[]⟩

def leafToks (p : PartR) : List TokR :=
  if p.kind = 1 then [⟨2, ⟨#[]⟩, p.n, 0⟩]
  else if p.kind = 2 then [⟨3, p.s, 0, 0⟩]
  else if p.stage.data.toList = [] then [wordT (fieldWord p.field)] else [wordT p.stage, signT bDot, wordT (fieldWord p.field)]

def midT (k : Int) : TokR := if (opAt k).is_ = (opAt k).of_ ∧ (opAt k).is_ = 3 then wordT (opAt k).sign else signT (opAt k).sign
def fenced (outer : Bool) (l : List TokR) : List TokR := if outer then l else signT bOpen :: (l ++ [signT bShut])

def Ex.toks : Ex → Bool → List TokR
  | .leaf p, _ => leafToks p
  | .neg _ a, outer => fenced outer (wordT bNot :: a.toks false)
  | .bin p a b, outer => fenced outer (a.toks false ++ midT p.kind :: b.toks false)

/-! ### As values -/
structure ValR where
  n : Int
  s : ByteArray
  ok : Bool

def ValR.num (n : Int) : ValR := ⟨n, ⟨#[]⟩, false⟩
def ValR.text (s : ByteArray) : ValR := ⟨0, s, false⟩
def ValR.truth (b : Bool) : ValR := ⟨0, ⟨#[]⟩, b⟩
def twoM (k : Int) (a b : ValR) : ValR :=
  if k = 4 then .num (wrap64 (a.n + b.n))
  else if k = 5 then .num (wrap64 (a.n - b.n))
  else if k = 6 then .num (wrap64 (a.n * b.n))
  else if k = 7 then .truth (decide (a.n < b.n))
  else if k = 8 then .truth (decide (a.n ≤ b.n))
  else if k = 9 then .truth (decide (a.n = b.n ∧ a.s.data.toList = b.s.data.toList ∧ a.ok = b.ok))
  else if k = 10 then .truth (!decide (a.n = b.n ∧ a.s.data.toList = b.s.data.toList ∧ a.ok = b.ok))
  else if k = 11 then .truth (a.ok && b.ok)
  else .truth (a.ok || b.ok)

def Ex.val (get : ByteArray → Int → ValR) : Ex → ValR
  | .leaf p => if p.kind = 1 then .num p.n else if p.kind = 2 then .text p.s else get p.stage p.field
  | .neg _ a => .truth (!(a.val get).ok)
  | .bin p a b => twoM p.kind (a.val get) (b.val get)

end Go.Proofs.YtefcmijobbgpbaaGreatDoor
