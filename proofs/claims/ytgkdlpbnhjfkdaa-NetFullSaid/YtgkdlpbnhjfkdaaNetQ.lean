/- The walk of NetFull. Conditions: none but the text's length as it can be read. -/
import Derived.Test.YtgkdlpbnhjfkdaaNetP
namespace Go.Proofs.Ytgkdlpbnhjfkdaa
open Go.RowKit

def bigN : Nat := 65537
theorem bigN_eq : bigN = 65537 := rfl
theorem bigN_int : ((bigN : Nat) : Int) = 65537 := rfl
def bigRow : Array Value := (List.replicate bigN (Value.int .u8 0)).toArray
def bigS : ByteArray := (List.replicate bigN (0 : Int)).foldl (fun r n => r.push (UInt8.ofNat n.toNat)) ByteArray.empty

theorem push_size : ∀ (ns : List Int) (s : ByteArray), (ns.foldl (fun r n => r.push (UInt8.ofNat n.toNat)) s).size = s.size + ns.length := by
  intro ns
  induction ns with
  | nil => intro s; rfl
  | cons n r ih => intro s; simp only [List.foldl_cons, List.length_cons]; rw [ih, ByteArray.size_push]; omega
theorem bigS_size : bigS.size = bigN := by
  unfold bigS
  rw [push_size, List.length_replicate]
  simp

theorem big_make (w : World) : (Instr.makeSlice 48 (.int .i64 65537) (.int .i64 65537)).run Try.prog w = .ok (.slice (some ⟨w.heap.size, 0, none⟩) bigN bigN) (w.alloc (.cells bigRow 5 (0, 0))) := by
  have h := run_make_one (P := Try.prog) w (t := 48) (e := 5) (bytes := 1) (z := .int .u8 0) Try.underlying48 (by kernel_rfl) rfl bigN (by rw [bigN_eq]; omega) (by rw [bigN_eq]; omega)
  rw [bigN_int] at h
  exact h

theorem load_zeros (w : World) (B n : Nat) (hB : w.heap[B]? = some (.cells (List.replicate n (Value.int .u8 0)).toArray 5 (0, 0))) :
    (loadCells ⟨B, 0, none⟩ n).run Try.prog w = .ok ((List.replicate n (0 : Int)).map (Value.int .u8)).toArray w := by
  have h := run_loadCells_list (P := Try.prog) (w := w) ⟨B, 0, none⟩ ((List.replicate n (0 : Int)).map (Value.int .u8)) ?_
  · rw [List.length_map, List.length_replicate] at h
    exact h
  · intro j v hj
    rw [addr_add, cell_of_row _ B _ _ _ _ hB]
    rw [List.map_replicate] at hj
    rw [List.getElem?_toArray, Nat.zero_add]
    exact hj

theorem big_convert (w : World) (B : Nat) (hB : w.heap[B]? = some (.cells bigRow 5 (0, 0))) : (convert 48 9 (.slice (some ⟨B, 0, none⟩) bigN bigN)).run Try.prog w = .ok (.string bigS) w := by
  rw [run_convert_bytes_string w 48 9 5 _ _ _ Try.underlying48 Try.underlying5 Try.underlying9]
  exact run_bytesToString w _ _ _ _ (load_zeros w B bigN hB)

def fullM (b : ByteArray) (k : Nat) : List (List Pk) := [[], List.replicate k (0, b)]

theorem full_send (b : ByteArray) (k : Nat) (hb : b.size ≤ 20) (hk : k < 4096) : sendM (fullM b k) [k, 0, 0, 0] 0 1 b = (fullM b (k + 1), [(k : Int) + 1, 0, 0, 0], 0) := by
  have e1 : noNode (fullM b k).length 0 = false := rfl
  have e2 : noNode (fullM b k).length 1 = false := rfl
  simp only [sendM, e1, e2]
  rw [if_neg (by simp)]
  simp only [putM]
  rw [if_neg (by simp [fullM]; omega)]
  have e3 : wrap64 ((k : Int) + 1) = (k : Int) + 1 := by unfold wrap64; omega
  simp [fullM, e3, List.replicate_succ']

theorem full_send2 (b : ByteArray) : sendM (fullM b 4096) [4096, 0, 0, 0] 0 1 b = (fullM b 4096, [4096, 0, 0, 0], 2) := by
  have e1 : noNode (fullM b 4096).length 0 = false := rfl
  have e2 : noNode (fullM b 4096).length 1 = false := rfl
  simp only [sendM, e1, e2]
  rw [if_neg (by simp)]
  simp only [putM]
  rw [if_pos]
  right
  show 4096 ≤ (List.replicate 4096 ((0 : Int), b)).length
  rw [List.length_replicate]
  exact Nat.le_refl _

theorem full_get (b : ByteArray) : getM (fullM b 4096) 1 0 = ((0, b), 0) := by
  have e1 : noNode (fullM b 4096).length 1 = false := rfl
  simp only [getM, e1]
  rw [if_neg (by simp)]
  have e2 : (fullM b 4096).getD (Int.toNat 1) [] = List.replicate 4096 ((0 : Int), b) := rfl
  rw [e2, List.length_replicate, if_neg (by omega)]
  rw [List.getD_eq_getElem?_getD, List.getElem?_replicate, if_pos (by decide)]
  rfl

theorem full_copy (b : ByteArray) : copyM (fullM b 4096) [4096, 0, 0, 0] 1 0 = (fullM b 4096, [4096, 0, 0, 0], 2) := by
  simp only [copyM, full_get]
  rw [if_pos trivial]
  simp only [putM]
  rw [if_pos]
  right
  show 4096 ≤ (List.replicate 4096 ((0 : Int), b)).length
  rw [List.length_replicate]
  exact Nat.le_refl _

def fullM2 (b : ByteArray) : List (List Pk) := [[(1, b)], List.replicate 4096 (0, b)]

theorem full_send3 (b : ByteArray) (hb : b.size ≤ 20) : sendM (fullM b 4096) [4096, 0, 0, 0] 1 0 b = (fullM2 b, [4097, 0, 0, 0], 0) := by
  have e1 : noNode (fullM b 4096).length 1 = false := rfl
  have e2 : noNode (fullM b 4096).length 0 = false := rfl
  simp only [sendM, e1, e2]
  rw [if_neg (by simp)]
  simp only [putM]
  rw [if_neg]
  · have e3 : wrap64 ((4096 : Int) + 1) = 4097 := by unfold wrap64; omega
    show ([[] ++ [((1 : Int), b)], List.replicate 4096 ((0 : Int), b)], [wrap64 ((4096 : Int) + 1), 0, 0, 0], (0 : Int)) = _
    rw [e3]
    rfl
  · show ¬ (65536 < b.size ∨ 4096 ≤ ([] : List Pk).length)
    simp
    omega

theorem full_send4 (b : ByteArray) : sendM (fullM2 b) [4097, 0, 0, 0] 0 0 bigS = (fullM2 b, [4097, 0, 0, 0], 2) := by
  have e2 : noNode (fullM2 b).length 0 = false := rfl
  simp only [sendM, e2]
  rw [if_neg (by simp)]
  simp only [putM]
  rw [if_pos]
  left
  show 65536 < bigS.size
  rw [bigS_size, bigN_eq]
  omega

theorem full_clear (b : ByteArray) : clearM (fullM2 b) [4097, 0, 0, 0] 1 = ([[], []], [4097, 4097, 0, 0], 4097, 0) := by
  have e2 : noNode (fullM2 b).length 1 = false := rfl
  have c0 : clr 1 0 [(1, b)] = [] := by simp [clr]
  have c1 : clr 1 1 (List.replicate 4096 ((0 : Int), b)) = [] := by
    unfold clr
    rw [List.filter_eq_nil_iff]
    intro x _
    simp
  have l2 : lostTo 1 (fullM2 b) 2 = 4097 := by
    have g0 : (fullM2 b).getD 0 [] = [(1, b)] := rfl
    have g1 : (fullM2 b).getD 1 [] = List.replicate 4096 ((0 : Int), b) := rfl
    simp only [lostTo, g0, g1, c0, c1, List.length_replicate]
    rfl
  simp only [clearM, e2]
  rw [if_neg (by simp)]
  have hl : (fullM2 b).length = 2 := rfl
  have hc : clrTo 1 (fullM2 b) 2 = [[], []] := by
    show [clr 1 0 [(1, b)], clr 1 1 (List.replicate 4096 ((0 : Int), b))] = _
    rw [c0, c1]
  have e3 : wrap64 ((0 : Int) + 4097) = 4097 := by unfold wrap64; omega
  rw [hl, hc, l2]
  show (([[], []] : List (List Pk)), [4097, wrap64 ((0 : Int) + 4097), 0, 0], (4097 : Int), (0 : Int)) = _
  rw [e3]

set_option maxRecDepth 100000 in
set_option maxHeartbeats 2000000 in
theorem netFull_any (b0 : ByteArray) (W : World) (hb0 : b0.size ≤ 9223372036854775807) : Calls Try.prog 5 #[.string b0] W fun e w' => e = .returned (.bool true) ∧ Keeps [] W w' := by
  have hmk := big_make
  have he : ∀ w, (binOp .eql 41 (.agg #[.int .i64 4097, .int .i64 4097, .int .i64 0, .int .i64 0]) (.agg #[.int .i64 4097, .int .i64 4097, .int .i64 0, .int .i64 0])).run Try.prog w = .ok (.bool true) w := fun _ => by kernel_rfl
  by_cases hs : 20 < b0.size
  · obtain ⟨b, hb, hbs⟩ : ∃ b : ByteArray, b0.extract 0 20 = b ∧ b.size ≤ 20 := ⟨_, rfl, by rw [ByteArray.size_extract]; omega⟩
    have hd : decide ((20 : Int) < (b0.size : Int)) = true := by simp; omega
    go_enter Try.func5, Try.ntmps5
    go_wp2_with fail
    refine (new_at 2 W (by omega) (by omega)).mono ?_
    rintro e w1 ⟨rfl, hn1⟩
    go_wp2_with fail
    refine (works_any w1).mono ?_
    rintro e w2 ⟨rfl, hk2⟩
    have hn2 := hn1.keep hk2
    clear hn1 hk2
    go_wp2_with fail
    clear hb hs hd
    go_loopw [5] (fun i wr => ∃ k : Nat, k ≤ 4096 ∧ i = .int .i64 k ∧ NetAt W wr (W.heap.size + 1) W.heap.size (fullM b k) [k, 0, 0, 0]) (fun i _ => 4096 - (intOf i).toNat)
    case atStart => exact ⟨0, by omega, rfl, hn2⟩
    case round =>
      obtain ⟨k, hk, rfl, hN⟩ := hrel
      clear hn2 w2 w1
      by_cases hlt : k < 4096
      · have hS := Lib.hid (full_send b k hbs hlt ▸ send_at 0 1 b hN)
        go_wp2_with fail
        refine hS.out.mono ?_
        rintro e w3 ⟨rfl, hN3⟩
        clear hS hN
        go_wp2_with fail
        go_roundw
        case rel => exact ⟨k + 1, by omega, by go_num, hN3⟩
        case measure => simp [intOf]; omega
      · have hk4 : k = 4096 := by omega
        subst hk4
        have hN' : NetAt W wr (W.heap.size + 1) W.heap.size (fullM b 4096) [4096, 0, 0, 0] := hN
        clear hN
        go_wp2_with fail
        have hS := Lib.hid (full_send2 b ▸ send_at 0 1 b hN')
        refine hS.out.mono ?_
        rintro e w3 ⟨rfl, hN3⟩
        clear hS hN'
        go_wp2_with fail
        have hS := Lib.hid (full_copy b ▸ copy_at 1 0 hN3)
        refine hS.out.mono ?_
        rintro e w4 ⟨rfl, hN4⟩
        clear hS hN3
        go_wp2_with fail
        have hS := Lib.hid (full_send3 b hbs ▸ send_at 1 0 b hN4)
        refine hS.out.mono ?_
        rintro e w5 ⟨rfl, hN5⟩
        clear hS hN4
        have hcv := big_convert (w5.alloc (.cells bigRow 5 (0, 0))) w5.heap.size (heap_alloc_new _ _)
        go_wp2_with fail
        have hS := Lib.hid (full_send4 b ▸ send_at 0 0 bigS (hN5.keep ((Keeps.refl [] w5).alloc (.cells bigRow 5 (0, 0)))))
        refine hS.out.mono ?_
        rintro e w6 ⟨rfl, hN6⟩
        clear hS hN5 hcv
        go_wp2_with fail
        have hS := Lib.hid (full_clear b ▸ clear_at 1 hN6)
        refine hS.out.mono ?_
        rintro e w7 ⟨rfl, hN7⟩
        clear hS hN6
        go_wp2_with fail
        have hS := Lib.hid (counts_at hN7)
        refine hS.out.mono ?_
        rintro e w8 ⟨rfl, hN8⟩
        clear hS hN7
        go_wp2_with fail
        go_ret
        exact ⟨rfl, hN8.old⟩
  · have hbs : b0.size ≤ 20 := by omega
    have hd : decide ((20 : Int) < (b0.size : Int)) = false := by simp; omega
    go_enter Try.func5, Try.ntmps5
    go_wp2_with fail
    refine (new_at 2 W (by omega) (by omega)).mono ?_
    rintro e w1 ⟨rfl, hn1⟩
    go_wp2_with fail
    refine (works_any w1).mono ?_
    rintro e w2 ⟨rfl, hk2⟩
    have hn2 := hn1.keep hk2
    clear hn1 hk2
    go_wp2_with fail
    clear hs hd
    generalize hb : b0 = b at *
    clear hb
    go_loopw [5] (fun i wr => ∃ k : Nat, k ≤ 4096 ∧ i = .int .i64 k ∧ NetAt W wr (W.heap.size + 1) W.heap.size (fullM b k) [k, 0, 0, 0]) (fun i _ => 4096 - (intOf i).toNat)
    case atStart => exact ⟨0, by omega, rfl, hn2⟩
    case round =>
      obtain ⟨k, hk, rfl, hN⟩ := hrel
      clear hn2 w2 w1
      by_cases hlt : k < 4096
      · have hS := Lib.hid (full_send b k hbs hlt ▸ send_at 0 1 b hN)
        go_wp2_with fail
        refine hS.out.mono ?_
        rintro e w3 ⟨rfl, hN3⟩
        clear hS hN
        go_wp2_with fail
        go_roundw
        case rel => exact ⟨k + 1, by omega, by go_num, hN3⟩
        case measure => simp [intOf]; omega
      · have hk4 : k = 4096 := by omega
        subst hk4
        have hN' : NetAt W wr (W.heap.size + 1) W.heap.size (fullM b 4096) [4096, 0, 0, 0] := hN
        clear hN
        go_wp2_with fail
        have hS := Lib.hid (full_send2 b ▸ send_at 0 1 b hN')
        refine hS.out.mono ?_
        rintro e w3 ⟨rfl, hN3⟩
        clear hS hN'
        go_wp2_with fail
        have hS := Lib.hid (full_copy b ▸ copy_at 1 0 hN3)
        refine hS.out.mono ?_
        rintro e w4 ⟨rfl, hN4⟩
        clear hS hN3
        go_wp2_with fail
        have hS := Lib.hid (full_send3 b hbs ▸ send_at 1 0 b hN4)
        refine hS.out.mono ?_
        rintro e w5 ⟨rfl, hN5⟩
        clear hS hN4
        have hcv := big_convert (w5.alloc (.cells bigRow 5 (0, 0))) w5.heap.size (heap_alloc_new _ _)
        go_wp2_with fail
        have hS := Lib.hid (full_send4 b ▸ send_at 0 0 bigS (hN5.keep ((Keeps.refl [] w5).alloc (.cells bigRow 5 (0, 0)))))
        refine hS.out.mono ?_
        rintro e w6 ⟨rfl, hN6⟩
        clear hS hN5 hcv
        go_wp2_with fail
        have hS := Lib.hid (full_clear b ▸ clear_at 1 hN6)
        refine hS.out.mono ?_
        rintro e w7 ⟨rfl, hN7⟩
        clear hS hN6
        go_wp2_with fail
        have hS := Lib.hid (counts_at hN7)
        refine hS.out.mono ?_
        rintro e w8 ⟨rfl, hN8⟩
        clear hS hN7
        go_wp2_with fail
        go_ret
        exact ⟨rfl, hN8.old⟩

end Go.Proofs.Ytgkdlpbnhjfkdaa
