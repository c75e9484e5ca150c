/- What the listed variables give a walk, and a world that holds them. -/
import Derived.Test.YtfoeadiejcheiaaDoorLawD
import Derived.Test.YtfoeadiejcheiaaDoorCards
import Derived.Test.YtfoeadiejcheiaaDoorTie
import Derived.Deep.DeepHandedRow
import Derived.Deep.DeepLaidRun
import Derived.OpenShut
namespace Go.Proofs.YtfoeadiejcheiaaDoor
open Go.ChangeShapes Go.WideShapes Go.ChangeAt Go.RowKit

def laidList : List (String × DataW Unit) := Rows.tokenJoinsRow.laid

def clsTab : List Int := (List.range 128).map fun i => clsI (UInt8.ofNat i)
theorem clsTab_length : clsTab.length = 128 := by decide +kernel

theorem laid_classes : (Rows.laid_weaver_token_classes : DataW Unit) = Lib.tabData .u8 clsTab := by kernel_rfl
theorem laid_pow : (Rows.laid_internal_strconv_uint64pow10 : DataW Unit) = Lib.tabData .u64 Lib.pow10Tab := by kernel_rfl

theorem laid_plain {W : World} (h : laidMetH Tryd.prog laidList W) : laidMet Tryd.prog laidList W := h

theorem err_row (u : TypeId) (h : Tryd.prog.typeName? 3 u = some "*errors.errorString") : u = 101 := by
  have hs : "*" ++ "errors.errorString" = "*errors.errorString" := by decide
  exact typeName_ptr_named (nm := "errors.errorString") (by rw [hs]; kernel_rfl) (by kernel_rfl) (by decide) u (by rw [hs]; exact h)

theorem glob_of_laid {W : World} (h : laidMetH Tryd.prog laidList W) : Glob W := by
  have h0 := laid_plain h
  have h2 : laidMet Tryd.prog (("internal/strconv.uint64pow10", Lib.tabData .u64 Lib.pow10Tab) :: _) W := laid_pow ▸ h0.tail.tail
  have h3 := h2.tail
  have h5 : laidMet Tryd.prog (("weaver/token.classes", Lib.tabData .u8 clsTab) :: []) W := laid_classes ▸ h3.tail.tail
  have hp := Lib.tabIs_of_head (g := 1) (by kernel_rfl) (t := 92) (by kernel_rfl) Tryd.underlying92 Tryd.underlying36 (by kernel_rfl) (by kernel_rfl) h2
  have hc := Lib.tabIs_of_head (g := 0) (by kernel_rfl) (t := 66) (by kernel_rfl) Tryd.underlying66 Tryd.underlying5 (by kernel_rfl) (by kernel_rfl) h5
  obtain ⟨a, s, hv, _⟩ := laid_sentinel h3 (g := 4) (by kernel_rfl) (ti := 53) (by kernel_rfl) Tryd.underlying53 err_row Tryd.underlying101 Tryd.underlying103 rfl rfl Tryd.underlying9 (by kernel_rfl) (by kernel_rfl)
  refine ⟨fun i hi => ?_, ?_, ?_⟩
  · have h := hc.cell (g := 0) (by kernel_rfl) i (by rw [clsTab_length]; exact hi)
    rw [h]
    have e : clsTab.getD i 0 = clsI (UInt8.ofNat i) := by
      unfold clsTab
      rw [List.getD_eq_getElem?_getD, List.getElem?_map, List.getElem?_range hi]
      rfl
    rw [e]
  · refine ⟨_, by simpa using World.var?_cell (by kernel_rfl) hv 0, .inr ⟨_, _, rfl⟩⟩
  · have hg : Tryd.prog.globalNamed "internal/strconv.uint64pow10" = some 1 := by kernel_rfl
    unfold Lib.TabIs World.var? at hp
    rw [hg] at hp
    simp only [Option.bind_some] at hp
    split at hp
    · rename_i cs t fr hh
      cases hp
      exact ⟨t, fr, hh⟩
    · cases hp

/-! ### A world for the witness -/
def litV : DataW Unit → Value
  | .lit (.int k n) => .int k n
  | _ => undef
def aggV : DataW Unit → Array Value
  | .agg ps => (ps.map litV).toArray
  | _ => #[]
def textR : ByteArray := ⟨#[118, 97, 108, 117, 101, 32, 111, 117, 116, 32, 111, 102, 32, 114, 97, 110, 103, 101]⟩
def textS : ByteArray := ⟨#[105, 110, 118, 97, 108, 105, 100, 32, 115, 121, 110, 116, 97, 120]⟩
def laying (cs : Array Value) : Obj → Obj
  | .cells _ t fr => .cells cs t fr
  | o => o
noncomputable def low : Nat := (World.holding Tryd.prog default ⟨#[], #[], []⟩).heap.size
noncomputable def laidWorld (os : Os) : World :=
  let w0 := World.holding Tryd.prog os ⟨#[.cells #[.string textR] 103, .cells #[.string textS] 103], #[], []⟩
  { w0 with heap := (((((w0.heap.modify 5 (laying (aggV Rows.laid_math_bits_deBruijn32tab))).modify 6 (laying (aggV Rows.laid_math_bits_deBruijn64tab))).modify 1 (laying (aggV Rows.laid_internal_strconv_uint64pow10))).modify 0 (laying (aggV Rows.laid_weaver_token_classes))).modify 4 (laying #[.iface 101 (.pointer (some ⟨low, 0, none⟩))])).modify 3 (laying #[.iface 101 (.pointer (some ⟨low + 1, 0, none⟩))]) }

set_option maxRecDepth 100000 in
theorem laid_met (os : Os) (args : Array Value) : laidMet Tryd.prog laidList ((laidWorld os).forCall (fun _ _ => 0) ⟨#[], args, []⟩).memory :=
  laidMet_of_run3 8 (by kernel_rfl) (by kernel_rfl) (by kernel_rfl)

end Go.Proofs.YtfoeadiejcheiaaDoor
