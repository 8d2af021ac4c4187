/- Chapter 11: a nobody's blobs; a fresh world; texts that are too long. -/
import Derived.Test.YtmcgaaihdjpdgaaGreatDoorBlF
import Derived.Test.YtmcgaaihdjpdgaaGreatDoorBlE
import Derived.Test.YtmcgaaihdjpdgaaGreatDoorLiftFiles
import Derived.Test.YtmcgaaihdjpdgaaGreatDoorBuilder
import Derived.Laws.IdiomStrings
import Derived.BigRegion
import Derived.Deep.RegionHeld3
namespace Go.Proofs.YtmcgaaihdjpdgaaGreatDoor
open Go.RowKit
set_option linter.unusedVariables false

def SB0 (B : Nat) (k : Nat) : Prop := k = B + 2 ∨ k = B + 1 ∨ k = B
/-- A world with nothing in it. -/
def FreshOut (w : World) (e : Ending) (w' : World) : Prop := e = .returned (.pointer (some ⟨w.heap.size + 4, 0, none⟩)) ∧
  Blk w' (w.heap.size + 4) 34 #[.pointer (some ⟨w.heap.size + 2, 0, none⟩), .pointer (some ⟨w.heap.size + 1, 0, none⟩), .pointer (some ⟨w.heap.size + 3, 0, none⟩)] ∧
  Blk w' (w.heap.size + 3) 41 #[.slice none 0 0, .slice none 0 0] ∧
  BS w' (w.heap.size + 2) (w.heap.size + 1) w.heap.size 0 (.map []) (SB0 w.heap.size) [] [] ∧ Below w.heap.size w w' ∧ w'.heap.size = w.heap.size + 5
set_option maxHeartbeats 1000000 in
set_option maxRecDepth 100000 in
theorem fresh_any (w : World) : Calls Tryz.prog 4 #[] w (FreshOut w) := by
  go_enter Tryz.func4, Tryz.ntmps4
  go_wp2_with (first
    | (go_at_call 9; (with_reducible refine (ideal_any w).mono ?_); rintro e w1 ⟨rfl, hbk, hmp, hb1, hs1⟩; have hbs := bs_new w1 _ _ hbk hmp; rw [hs1] at hbs; have HBS := Lib.hid hbs; clear hbs hbk hmp)
    | (go_at_call 10; (with_reducible refine (new_any _ _).mono ?_); rintro e w2 ⟨rfl, rfl⟩)
    | fail)
  go_ret
  have h2 := hb1.alloc hb1.size (.cells #[.pointer (some ⟨w.heap.size + 1, 0, none⟩), .slice none 0 0, .slice none 0 0] 52)
  have h3 := h2.alloc h2.size (.cells #[.slice none 0 0, .slice none 0 0] 41)
  have h4 := h3.alloc h3.size (.cells #[.pointer (some ⟨w.heap.size + 2, 0, none⟩), .pointer (some ⟨w.heap.size + 1, 0, none⟩), .pointer (some ⟨w.heap.size + 3, 0, none⟩)] 34)
  exact ⟨rfl, Blk.newAt (by simp [hs1]) _ _, Blk.alloc (Blk.newAt (by simp [hs1]) _ _) _, (HBS.out.below ((Below.refl _ _).alloc (Nat.le_refl _) _)).below ((Below.refl _ _).alloc (Nat.le_refl _) _), h4, by simp [hs1]⟩
def zsB (n : Nat) : ByteArray := ⟨(List.replicate n (0 : UInt8)).toArray⟩
def zbB (n : Nat) : Array Value := (List.replicate n (Value.int .u8 0)).toArray
theorem zsB_size (n : Nat) : (zsB n).size = n := by
  show (List.replicate n (0 : UInt8)).toArray.size = n
  simp
set_option maxRecDepth 100000 in
theorem made_bytesB (n : Nat) (hn : n ≤ 1000000) (W : World) : (Instr.makeSlice 104 (.int .i64 n) (.int .i64 n)).run Tryz.prog W = .ok (.slice (some ⟨W.heap.size, 0, none⟩) n n) (W.alloc (.cells (zbB n) 5)) := by
  obtain ⟨i0, hi, hz0, hz1, hz2⟩ := info_parts infoByte
  have hr := run_make (P := Tryz.prog) W 104 5 i0 (.int .u8 0) Tryz.underlying104 hi hz0 .i64 .i64 n n (by omega) (Int.le_refl _) (by rw [hz2]; omega) (by omega)
  rw [Int.toNat_natCast, hz1, Nat.mul_one] at hr
  rw [hr]
  congr 3
  apply Array.ext_getElem?
  intro j
  unfold madeCells zbB
  rw [Array.getElem?_map, Array.getElem?_range, List.getElem?_toArray, List.getElem?_replicate]
  by_cases hj : j < n
  · rw [if_pos hj, if_pos hj]
    show some ((#[Value.int .u8 0] : Array Value)[j % 1]!) = _
    rw [Nat.mod_one]
    rfl
  · rw [if_neg hj, if_neg hj]
    rfl
theorem conv_zsB {W : World} {g n : Nat} (h : Blk W g 5 (zbB n)) : (convert 104 9 (.slice (some ⟨g, 0, none⟩) n n)).run Tryz.prog W = .ok (.string (zsB n)) W := by
  have := run_convert_bytes_back (P := Tryz.prog) W 104 9 5 ⟨g, 0, none⟩ n (List.replicate n (0 : UInt8)) Tryz.underlying104 Tryz.underlying5 Tryz.underlying9 (fun j hj => by
    rw [List.length_replicate] at hj
    have hc := h.cell j
    rw [show ((⟨g, 0, none⟩ : Addr).add j) = ⟨g, j, none⟩ by unfold Addr.add; simp; intro h; exact h.symm, hc]
    unfold zbB
    rw [List.getElem?_toArray, List.getElem?_replicate, if_pos hj, List.getElem_replicate]
    rfl)
  rw [List.length_replicate] at this
  exact this
end Go.Proofs.YtmcgaaihdjpdgaaGreatDoor
