/- Chapter 10: eight great files (plain); bytes that are made, and turned to a text. -/
import Derived.Test.YtlfennooocmclaaDoorIm3
import Derived.Test.YtlfennooocmclaaDoorTreeMix
import Derived.Test.YtlfennooocmclaaDoorBuilder
import Derived.Laws.IdiomStrings
namespace Go.Proofs.YtlfennooocmclaaDoor
open Go.RowKit
set_option linter.unusedVariables false

def zs (n : Nat) : ByteArray := ⟨(List.replicate n (0 : UInt8)).toArray⟩
def zb (n : Nat) : Array Value := (List.replicate n (Value.int .u8 0)).toArray
theorem zs_size (n : Nat) : (zs n).size = n := by
  show (List.replicate n (0 : UInt8)).toArray.size = n
  simp
theorem numL_len3 {n : Nat} (h1 : 16384 ≤ n) (h2 : n < 2097152) : (numL n).length = 3 := by
  rw [numL_ge (by omega), numL_ge (by omega), numL_lt (by omega)]
  rfl
theorem numL_len1 {n : Nat} (h : n < 128) : (numL n).length = 1 := by rw [numL_lt h]; rfl
/-- A file of one byte's path. -/
def gF (k : Nat) (d : ByteArray) : FileD := ⟨⟨#[UInt8.ofNat (97 + k)]⟩, 0, d⟩
theorem gF_hd (k : Nat) (d : ByteArray) (h1 : 16384 ≤ d.size) (h2 : d.size < 2097152) : (fileHd (gF k d)).length = 6 := by
  unfold fileHd gF
  simp only [List.length_append]
  rw [numL_len3 h1 h2, numL_len1 (show (Int.toNat 0) < 128 by decide), numL_len1 (show ByteArray.size ⟨#[UInt8.ofNat (97 + k)]⟩ < 128 by show 1 < 128; decide)]
  rfl
def gL (d e : ByteArray) : List FileD := [gF 0 d, gF 1 d, gF 2 d, gF 3 d, gF 4 d, gF 5 d, gF 6 d, gF 7 e]
theorem gL_len {d e : ByteArray} (d1 : 16384 ≤ d.size) (d2 : d.size < 2097152) (e1 : 16384 ≤ e.size) (e2 : e.size < 2097152) : (imgL (gL d e)).length = 49 + 7 * d.size + e.size := by
  unfold imgL imgH gL
  have hd : ∀ k (x : ByteArray), (gF k x).data.data.toList.length = x.size := fun k x => by show x.data.toList.length = _; exact (bt_size x).symm
  simp only [hdGo, datGo, List.length_append, List.length_cons, List.length_nil, gF_hd _ d d1 d2, gF_hd _ e e1 e2, hd]
  rw [numL_len1 (show (0 + 1 + 1 + 1 + 1 + 1 + 1 + 1 + 1) < 128 by decide)]
  omega
theorem fileE_g (k : Nat) {d : ByteArray} (h : d.size ≤ 65536) : fileE (gF k d) = 0 := by
  unfold fileE gF
  rw [if_pos (show (0 : Int) ≤ 0 ∧ (0 : Int) ≤ 511 by decide)]
  show (if 65536 < d.size then (4 : Int) else 0) = 0
  rw [if_neg (by omega)]
theorem gL_check {d e : ByteArray} (hd : d.size ≤ 65536) (he : e.size ≤ 65536) : checkE (gL d e) = 0 := by
  have hp : pathsE ((gL d e).map (·.path.data.toList)) = 0 := by
    show pathsE [[97], [98], [99], [100], [101], [102], [103], [104]] = 0
    kernel_rfl
  unfold checkE
  rw [if_pos hp]
  unfold gL
  simp only [filesE, fileE_g _ hd, fileE_g _ he, if_true]
set_option maxRecDepth 100000 in
theorem made_bytes (n : Nat) (hn : n ≤ 1000000) (W : World) : (Instr.makeSlice 31 (.int .i64 n) (.int .i64 n)).run Tryd.prog W = .ok (.slice (some ⟨W.heap.size, 0, none⟩) n n) (W.alloc (.cells (zb n) 5)) := by
  obtain ⟨i0, hi, hz0, hz1, hz2⟩ := info_parts infoByte
  have hr := run_make (P := Tryd.prog) W 31 5 i0 (.int .u8 0) Tryd.underlying31 hi hz0 .i64 .i64 n n (by omega) (Int.le_refl _) (by rw [hz2]; omega) (by omega)
  rw [Int.toNat_natCast, hz1, Nat.mul_one] at hr
  rw [hr]
  congr 3
  apply Array.ext_getElem?
  intro j
  unfold madeCells zb
  rw [Array.getElem?_map, Array.getElem?_range, List.getElem?_toArray, List.getElem?_replicate]
  by_cases hj : j < n
  · rw [if_pos hj, if_pos hj]
    show some ((#[Value.int .u8 0] : Array Value)[j % 1]!) = _
    rw [Nat.mod_one]
    rfl
  · rw [if_neg hj, if_neg hj]
    rfl
theorem conv_zs {W : World} {g n : Nat} (h : Blk W g 5 (zb n)) : (convert 31 9 (.slice (some ⟨g, 0, none⟩) n n)).run Tryd.prog W = .ok (.string (zs n)) W := by
  have := run_convert_bytes_back (P := Tryd.prog) W 31 9 5 ⟨g, 0, none⟩ n (List.replicate n (0 : UInt8)) Tryd.underlying31 Tryd.underlying5 Tryd.underlying9 (fun j hj => by
    rw [List.length_replicate] at hj
    have hc := h.cell j
    rw [show ((⟨g, 0, none⟩ : Addr).add j) = ⟨g, j, none⟩ by unfold Addr.add; simp; intro h; exact h.symm, hc]
    unfold zb
    rw [List.getElem?_toArray, List.getElem?_replicate, if_pos hj, List.getElem_replicate]
    rfl)
  rw [List.length_replicate] at this
  exact this
theorem conv_one {W : World} {g : Nat} {b : UInt8} (h : Blk W g 5 #[.int .u8 (b.toNat : Int)]) : (convert 31 9 (.slice (some ⟨g, 0, none⟩) 1 1)).run Tryd.prog W = .ok (.string ⟨#[b]⟩) W :=
  run_convert_bytes_back (P := Tryd.prog) W 31 9 5 ⟨g, 0, none⟩ 1 [b] Tryd.underlying31 Tryd.underlying5 Tryd.underlying9 (fun j hj => by
    obtain rfl : j = 0 := by simp at hj; exact hj
    have hc := h.cell 0
    rw [show ((⟨g, 0, none⟩ : Addr).add 0) = ⟨g, 0, none⟩ by unfold Addr.add; simp, hc]
    rfl)
end Go.Proofs.YtlfennooocmclaaDoor
