/- A few bytes of the call's own, read as a text. Conditions: those of the theorem. -/
import Derived.Test.YtfoeadiejcheiaaDoorTokD
namespace Go.Proofs.YtfoeadiejcheiaaDoor
open Go.RowKit

theorem conv_bytes (ns : List Int) (w : World) (B : Nat) (hB : w.heap[B]? = some (.cells (ns.map (Value.int .u8)).toArray 5 (0, 0))) :
    ∀ w', Keeps [] w w' → (convert 43 9 (.slice (some ⟨B, 0, none⟩) ns.length ns.length)).run Tryd.prog w' = .ok (.string (ns.foldl (fun r n => r.push (UInt8.ofNat n.toNat)) ByteArray.empty)) w' := by
  intro w' hk
  have hB' := hk.heap hB (by simp)
  rw [run_convert_bytes_string w' 43 9 5 _ _ _ Tryd.underlying43 Tryd.underlying5 Tryd.underlying9]
  refine run_bytesToString w' _ _ _ _ ?_
  have h := run_loadCells_list (P := Tryd.prog) (w := w') ⟨B, 0, none⟩ (ns.map (Value.int .u8)) ?_
  · rw [List.length_map] at h
    exact h
  · intro j v hj
    rw [addr_add, cell_of_row _ B _ _ _ _ hB']
    rw [List.getElem?_toArray, Nat.zero_add]
    exact hj

end Go.Proofs.YtfoeadiejcheiaaDoor
