/- What the listed variables give a walk, and a world that holds them. -/
import Derived.Test.YtefcmijobbgpbaaGreatDoorExFF
import Derived.Test.YtefcmijobbgpbaaGreatDoorExB
import Derived.Lib.LaidTab
import Derived.Stop.LaidErr
import Derived.Test.YtefcmijobbgpbaaGreatDoorCards
import Derived.Test.YtefcmijobbgpbaaGreatDoorTie
import Derived.Deep.DeepHandedRow
import Derived.Deep.DeepLaidRun
import Derived.OpenShut
namespace Go.Proofs.YtefcmijobbgpbaaGreatDoor
open Go.ChangeShapes Go.WideShapes Go.ChangeAt Go.RowKit

def laidList : List (String × DataW Unit) := Rows.exprSumsRow.laid

def clsTab : List Int := (List.range 128).map fun i => clsI (UInt8.ofNat i)
theorem clsTab_length : clsTab.length = 128 := by decide +kernel

theorem laid_classes : (Rows.laid_weaver_token_classes : DataW Unit) = Lib.tabData .u8 clsTab := by kernel_rfl
theorem laid_pow : (Rows.laid_internal_strconv_uint64pow10 : DataW Unit) = Lib.tabData .u64 Lib.pow10Tab := by kernel_rfl

theorem laid_sp : (Rows.laid_strings_asciiSpace : DataW Unit) = Lib.tabData .u8 Lib.asciiSpaceTab := by kernel_rfl

theorem laid_plain {W : World} (h : laidMetH Tryz.prog laidList W) : laidMet Tryz.prog laidList W := h

theorem err_row (u : TypeId) (h : Tryz.prog.typeName? 3 u = some "*errors.errorString") : u = 207 := by
  have hs : "*" ++ "errors.errorString" = "*errors.errorString" := by decide
  exact typeName_ptr_named (nm := "errors.errorString") (by rw [hs]; kernel_rfl) (by kernel_rfl) (by decide) u (by rw [hs]; exact h)

theorem glob_of_laid {W : World} (h : laidMetH Tryz.prog laidList W) : GlobX W := by
  have h0 := laid_plain h
  have h2 : laidMet Tryz.prog (("internal/strconv.uint64pow10", Lib.tabData .u64 Lib.pow10Tab) :: _) W := laid_pow ▸ h0.tail.tail
  have h3 := h2.tail
  have h5 : laidMet Tryz.prog (("strings.asciiSpace", Lib.tabData .u8 Lib.asciiSpaceTab) :: _) W := laid_sp ▸ h3.tail.tail.tail
  have h6 : laidMet Tryz.prog (("weaver/token.classes", Lib.tabData .u8 clsTab) :: []) W := laid_classes ▸ h5.tail
  have hp := Lib.tabIs_of_head (g := 3) (by kernel_rfl) (t := 197) (by kernel_rfl) Tryz.underlying197 Tryz.underlying141 (by kernel_rfl) (by kernel_rfl) h2
  have hsp := Lib.tabIs_of_head (g := 0) (by kernel_rfl) (t := 133) (by kernel_rfl) Tryz.underlying133 Tryz.underlying5 (by kernel_rfl) (by kernel_rfl) h5
  have hc := Lib.tabIs_of_head (g := 2) (by kernel_rfl) (t := 158) (by kernel_rfl) Tryz.underlying158 Tryz.underlying5 (by kernel_rfl) (by kernel_rfl) h6
  obtain ⟨a, s, hv, _⟩ := laid_sentinel h3 (g := 6) (by kernel_rfl) (ti := 129) (by kernel_rfl) Tryz.underlying129 err_row Tryz.underlying207 Tryz.underlying209 rfl rfl Tryz.underlying9 (by kernel_rfl) (by kernel_rfl)
  refine ⟨⟨fun i hi => ?_, ?_, ?_⟩, ?_⟩
  · have h := hc.cell (g := 2) (by kernel_rfl) i (by rw [clsTab_length]; exact hi)
    rw [h]
    have e : clsTab.getD i 0 = clsI (UInt8.ofNat i) := by
      unfold clsTab
      rw [List.getD_eq_getElem?_getD, List.getElem?_map, List.getElem?_range hi]
      rfl
    rw [e]
  · refine ⟨_, by simpa using World.var?_cell (by kernel_rfl) hv 0, .inr ⟨_, _, rfl⟩⟩
  · have hg : Tryz.prog.globalNamed "internal/strconv.uint64pow10" = some 3 := by kernel_rfl
    unfold Lib.TabIs World.var? at hp
    rw [hg] at hp
    simp only [Option.bind_some] at hp
    split at hp
    · rename_i cs t fr hh
      cases hp
      exact ⟨t, fr, hh⟩
    · cases hp
  · have hg : Tryz.prog.globalNamed "strings.asciiSpace" = some 0 := by kernel_rfl
    unfold Lib.TabIs World.var? at hsp
    rw [hg] at hsp
    simp only [Option.bind_some] at hsp
    split at hsp
    · rename_i cs t fr hh
      cases hsp
      exact ⟨t, fr, hh⟩
    · cases hsp

/-! ### A world for the witness -/
def litV : DataW Unit → Value
  | .lit (.int k n) => .int k n
  | _ => undef
def aggV : DataW Unit → Array Value
  | .agg ps => (ps.map litV).toArray
  | _ => #[]
def textR : ByteArray := ⟨#[118, 97, 108, 117, 101, 32, 111, 117, 116, 32, 111, 102, 32, 114, 97, 110, 103, 101]⟩
def textS : ByteArray := ⟨#[105, 110, 118, 97, 108, 105, 100, 32, 115, 121, 110, 116, 97, 120]⟩
def laying (cs : Array Value) : Obj → Obj
  | .cells _ t fr => .cells cs t fr
  | o => o
noncomputable def low : Nat := (World.holding Tryz.prog default ⟨#[], #[], []⟩).heap.size
def spaceRows : Array Value := #[.int .u16 9, .int .u16 13, .int .u16 1, .int .u16 32, .int .u16 133, .int .u16 101, .int .u16 160, .int .u16 5760, .int .u16 5600, .int .u16 8192, .int .u16 8202, .int .u16 1, .int .u16 8232, .int .u16 8233, .int .u16 1, .int .u16 8239, .int .u16 8287, .int .u16 48, .int .u16 12288, .int .u16 12288, .int .u16 1]
noncomputable def laidWorld (os : Os) : World :=
  let w0 := World.holding Tryz.prog os ⟨#[.cells #[.string textR] 209, .cells #[.string textS] 209, .cells #[.slice (some ⟨low + 3, 0, none⟩) 7 7, .slice none 0 0, .int .i64 2] 181, .cells spaceRows 184], #[], []⟩
  { w0 with heap := (((((((w0.heap.modify 7 (laying (aggV Rows.laid_math_bits_deBruijn32tab))).modify 8 (laying (aggV Rows.laid_math_bits_deBruijn64tab))).modify 3 (laying (aggV Rows.laid_internal_strconv_uint64pow10))).modify 2 (laying (aggV Rows.laid_weaver_token_classes))).modify 6 (laying #[.iface 207 (.pointer (some ⟨low, 0, none⟩))])).modify 5 (laying #[.iface 207 (.pointer (some ⟨low + 1, 0, none⟩))])).modify 1 (laying #[.pointer (some ⟨low + 2, 0, none⟩)])).modify 0 (laying (aggV Rows.laid_strings_asciiSpace)) }

set_option maxRecDepth 100000 in
theorem laid_met (os : Os) (args : Array Value) : laidMet Tryz.prog laidList ((laidWorld os).forCall (fun _ _ => 0) ⟨#[], args, []⟩).memory :=
  laidMet_of_run3 8 (by kernel_rfl) (by kernel_rfl) (by kernel_rfl)

end Go.Proofs.YtefcmijobbgpbaaGreatDoor
