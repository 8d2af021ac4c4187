/- The walk through numbered. -/
import Derived.Test.YtjhbmcgaehpadaaDoorTreeWalk4
import Derived.Test.YtjhbmcgaehpadaaDoorNumPlain
import Derived.Laws.IdiomStrings
namespace Go.Proofs.YtjhbmcgaehpadaaDoor
open Go.RowKit
set_option linter.unusedVariables false

def numT (n : Nat) : List UInt8 := n.toUInt8 :: List.replicate 31 0
def numTS (n : Nat) : ByteArray := ⟨(numT n).toArray⟩
theorem numTS_size (n : Nat) : (numTS n).size = 32 := rfl
def nrow (n k : Nat) : Array Value := if k = 0 then (Value.int .u8 0 :: List.replicate 31 (Value.int .u8 0)).toArray else (Value.int .u8 n :: List.replicate 31 (Value.int .u8 0)).toArray
theorem nrow_0 (n : Nat) : nrow n 0 = (Value.int .u8 0 :: List.replicate 31 (Value.int .u8 0)).toArray := rfl
theorem nrow_s (n k : Nat) (h : k ≠ 0) : nrow n k = (Value.int .u8 n :: List.replicate 31 (Value.int .u8 0)).toArray := if_neg h
theorem rep_zero {α : Type} (x : α) (n i : Nat) (h : i < n) : (List.replicate n x)[i]? = some x := by rw [List.getElem?_eq_getElem (by simpa using h)]; simp
theorem nrow_get {n k : Nat} (h : k < 32) : (nrow n k)[k]? = some (.int .u8 0) := by
  rcases Nat.eq_zero_or_pos k with rfl | hp
  · rfl
  · rw [nrow_s n k (by omega)]
    obtain ⟨j, rfl⟩ : ∃ j, k = j + 1 := ⟨k - 1, by omega⟩
    simp only [List.getElem?_toArray, List.getElem?_cons_succ]
    exact rep_zero _ _ _ (by omega)
theorem nrow_first (n : Nat) : (nrow n 0).setIfInBounds 0 (.int .u8 n) = nrow n 1 := rfl
theorem nrow_next {n k : Nat} (h0 : k ≠ 0) (h : k < 32) : (nrow n k).setIfInBounds k (.int .u8 0) = nrow n (k + 1) := by
  have hg := nrow_get (n := n) h
  rw [nrow_s n (k + 1) (by omega), ← nrow_s n k h0]
  apply Array.ext_getElem?
  intro i
  rw [Array.getElem?_setIfInBounds]
  split
  · rename_i e
    subst e
    rw [hg]
    split
    · rfl
    · rename_i hh
      exact absurd (Array.getElem?_eq_some_iff.1 hg).1 hh
  · rfl
theorem nrow_end (n j : Nat) (h : j < 32) (hn : n ≤ 255) : (nrow n 32)[j]? = ((numT n)[j]?).map fun u => Value.int .u8 (u.toNat : Int) := by
  rw [nrow_s n 32 (by decide)]
  unfold numT
  rcases Nat.eq_zero_or_pos j with rfl | hp
  · simp [toUInt8_toNat n (by omega)]
  · obtain ⟨i, rfl⟩ : ∃ i, j = i + 1 := ⟨j - 1, by omega⟩
    simp only [List.getElem?_toArray, List.getElem?_cons_succ]
    rw [rep_zero _ _ _ (by omega), rep_zero _ _ _ (by omega)]
    rfl
theorem infoU8 : (Tryd.prog.info? 5).map (fun i => (i.zero, i.size, i.bytes)) = some (some (.int .u8 0), 1, 1) := by kernel_rfl
theorem make_32 (W : World) : ∃ W1, (Instr.makeSlice 66 (.int .i64 32) (.int .i64 32)).run Tryd.prog W = .ok (.slice (some ⟨W.heap.size, 0, none⟩) 32 32) W1 ∧
    Blk W1 W.heap.size 5 (nrow 0 0) ∧ Below W.heap.size W W1 ∧ W1.heap.size = W.heap.size + 1 := by
  have h := run_make_row' (P := Tryd.prog) 66 5 (.int .u8 0) 1 Tryd.underlying66 infoU8 rfl .i64 .i64 32 (by decide) (by decide) W
  have e : madeCells #[.int .u8 0] 32 = nrow 0 0 := by
    apply Array.ext_getElem?
    intro j
    unfold madeCells
    rw [Array.getElem?_map, Array.getElem?_range]
    by_cases hj : j < 32
    · rw [if_pos (by simpa using hj)]
      rcases Nat.eq_zero_or_pos j with rfl | hp
      · simp [Nat.mod_one, nrow]
      · obtain ⟨i, rfl⟩ : ∃ i, j = i + 1 := ⟨j - 1, by omega⟩
        rw [nrow_0]
        simp only [List.getElem?_toArray, List.getElem?_cons_succ]
        rw [rep_zero _ _ _ (by omega)]
        simp [Nat.mod_one]
    · rw [if_neg (by simpa using hj), Array.getElem?_eq_none (by rw [nrow_0]; simp; omega)]
      rfl
  rw [e] at h
  exact ⟨_, h, Blk.new _ _ _, (Below.refl _ W).alloc (Nat.le_refl _) _, by simp⟩
theorem conv_32 (n B C : Nat) (w : World) (hn : n ≤ 255) (h : Blk w B 5 (nrow n 32)) : (convert 66 9 (.slice (some ⟨B, 0, none⟩) 32 C)).run Tryd.prog w = .ok (.string (numTS n)) w := by
  have := run_convert_bytes_back (P := Tryd.prog) w 66 9 5 ⟨B, 0, none⟩ C (numT n) Tryd.underlying66 Tryd.underlying5 Tryd.underlying9 (by
    intro j hj
    have hadd : (⟨B, 0, none⟩ : Addr).add j = ⟨B, j, none⟩ := by unfold Addr.add; split <;> simp_all
    rw [hadd, h.cell j, nrow_end n j hj hn, List.getElem?_eq_getElem hj]
    rfl)
  exact this
set_option maxHeartbeats 1000000 in
set_option maxRecDepth 100000 in
theorem numbered_any (n : Nat) (w : World) (hn : n ≤ 255) :
    Calls Tryd.prog 68 #[.int .i64 n] w fun e w' => e = .returned (.string (numTS n)) ∧ Below w.heap.size w w' := by
  obtain ⟨W1, hmk, hrow, hB, hz⟩ := make_32 w
  go_enter Tryd.func68, Tryd.ntmps68
  go_wp2
  go_loopw [8] (fun v wr => ∃ (k : Nat), k ≤ 32 ∧ v = .int .i64 k ∧ Hid (Blk wr w.heap.size 5 (nrow n k)) ∧ Below w.heap.size w wr) (fun v _ => 32 - (intOf v).toNat)
  case atStart => exact ⟨0, Nat.zero_le _, rfl, Lib.hid hrow, hB⟩
  case round =>
    obtain ⟨k, hk, rfl, H, hB⟩ := hrel
    by_cases hlt : k < 32
    · have c1 := (H.out.cell k).trans (nrow_get hlt)
      have f1 := H.out.frozen k
      have i0 : 0 ≤ (k : Int) := by omega
      have i1 : (k : Int) < 32 := by omega
      by_cases h0 : k = 0
      · subst h0
        have e0 : (n : Int) / 2 ^ (8 * min (0 : Int) 7).toNat % 256 = n := by
          rw [show (8 * min (0 : Int) 7).toNat = 0 by decide]
          omega
        have hst := H.out.set_ 0 (.int .u8 n)
        rw [nrow_first] at hst
        have hst := Lib.hid hst
        go_wp2
        go_roundw
        case rel => exact ⟨1, by omega, rfl, hst, hB.setCell (Nat.le_refl _) _⟩
        case measure => decide
      · by_cases h7 : 7 < k
        · have j7 : (7 : Int) < k := by omega
          have hmn : min (k : Int) 7 = 7 := by omega
          have hst := fun u => (H.out.set_ k u).set_ k (.int .u8 0)
          simp only [Array.setIfInBounds_setIfInBounds, nrow_next h0 hlt] at hst
          have hst := Lib.hid hst
          go_wp2
          go_roundw
          case rel => exact ⟨k + 1, by omega, by go_num, Lib.hid (hst.out _), (hB.setCell (Nat.le_refl _) _).setCell (Nat.le_refl _) _⟩
          case measure => simp [intOf] <;> omega
        · have j7 : ¬ (7 : Int) < k := by omega
          have hmn : min (k : Int) 7 = k := by omega
          have e0 : (n : Int) / 2 ^ (8 * k) % 256 = 0 := by
            rcases (by omega : k = 1 ∨ k = 2 ∨ k = 3 ∨ k = 4 ∨ k = 5 ∨ k = 6 ∨ k = 7) with rfl | rfl | rfl | rfl | rfl | rfl | rfl <;> simp <;> omega
          have hst := H.out.set_ k (.int .u8 0)
          rw [nrow_next h0 hlt] at hst
          have hst := Lib.hid hst
          go_wp2
          go_roundw
          case rel => exact ⟨k + 1, by omega, by go_num, hst, hB.setCell (Nat.le_refl _) _⟩
          case measure => simp [intOf] <;> omega
    · have hke : k = 32 := by omega
      subst hke
      have hcv := conv_32 n w.heap.size 32 wr hn H.out
      clear H
      go_wp2
      go_ret
      exact ⟨rfl, hB⟩
end Go.Proofs.YtjhbmcgaehpadaaDoor
