/- The classes that run is asked for. No conditions. -/
import Derived.Test.YtfoeadiejcheiaaDoorTokC
namespace Go.Proofs.YtfoeadiejcheiaaDoor
open Go.RowKit

theorem all_bytes {p : UInt8 → Bool} (h : ∀ i : Fin 256, p (UInt8.ofNat i.val) = true) (c : UInt8) : p c = true := by
  have h2 := h ⟨c.toNat, c.toNat_lt⟩
  have e : UInt8.ofNat c.toNat = c := UInt8.ofNat_toNat
  simpa [e] using h2

theorem inCls_blank (c : UInt8) : inCls ⟨#[1]⟩ c = isBlank c := by
  have := all_bytes (p := fun c => inCls ⟨#[1]⟩ c == isBlank c) (by decide +kernel) c
  simpa using this
theorem inCls_digit (c : UInt8) : inCls ⟨#[3]⟩ c = isDigit c := by
  have := all_bytes (p := fun c => inCls ⟨#[3]⟩ c == isDigit c) (by decide +kernel) c
  simpa using this
theorem inCls_alnum (c : UInt8) : inCls ⟨#[2, 3]⟩ c = isAlnum c := by
  have := all_bytes (p := fun c => inCls ⟨#[2, 3]⟩ c == isAlnum c) (by decide +kernel) c
  simpa using this

theorem cls_letter (c : UInt8) : (clsI c == 2) = isLetter c := by
  have := all_bytes (p := fun c => (clsI c == 2) == isLetter c) (by decide +kernel) c
  simpa using this
theorem cls_digit (c : UInt8) : (clsI c == 3) = isDigit c := by
  have := all_bytes (p := fun c => (clsI c == 3) == isDigit c) (by decide +kernel) c
  simpa using this
theorem cls_quote (c : UInt8) : (clsI c == 4) = (c == 39) := by
  have := all_bytes (p := fun c => (clsI c == 4) == (c == 39)) (by decide +kernel) c
  simpa using this
theorem cls_sign (c : UInt8) : (clsI c == 5) = isSign c := by
  have := all_bytes (p := fun c => (clsI c == 5) == isSign c) (by decide +kernel) c
  simpa using this

end Go.Proofs.YtfoeadiejcheiaaDoor
