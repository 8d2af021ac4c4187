/- The walks of bent and Bend. -/
import Derived.Test.YtpmjbkpooionbaaNetHelp
import Derived.Laws.IdiomStrings
set_option linter.unusedVariables false
namespace Go.Proofs.Ytpmjbkpooionbaa
open Go.RowKit

/-- A text as bytes: a new row, none of whose bytes is frozen. -/
theorem conv_bytes (s : ByteArray) (w : World) : ∃ (W1 : World) (C : Nat), (convert 9 53 (.string s)).run Try.prog w = .ok (.slice (some ⟨w.heap.size, 0, none⟩) s.size C) W1 ∧
    (∀ j (hj : j < s.data.size), W1.cell? ⟨w.heap.size, j, none⟩ = some (.int .u8 (s.data[j].toNat : Int))) ∧ (∀ j, j < s.size → W1.frozen? ⟨w.heap.size, j, none⟩ = false) ∧ Below w.heap.size w W1 := by
  have h := run_bytes_of_string (P := Try.prog) w 9 53 5 s Try.underlying9 Try.underlying53 Try.underlying5
  have hb := fun j hj => bytesRow_at s (grownCap w s.size 0 5) j hj
  have hz : s.size ≤ (bytesRow s (grownCap w s.size 0 5)).size := by
    unfold bytesRow
    rw [Array.size_append, Array.size_map]
    exact Nat.le_add_right _ _
  generalize bytesRow s (grownCap w s.size 0 5) = R at h hb hz
  generalize grownCap w s.size 0 5 = C at h
  have hg : (w.drew.alloc (.cells R 5 (R.size, R.size + 1))).heap[w.heap.size]? = some (.cells R 5 (R.size, R.size + 1)) := heap_alloc_new w.drew _
  refine ⟨_, C, h, fun j hj => ?_, fun j hj => ?_, ?_⟩
  · rw [cell_of_row _ w.heap.size j R 5 (R.size, R.size + 1) hg]
    exact hb j hj
  · unfold World.frozen?
    simp only [hg]
    simp
    omega
  · have h1 : Below w.heap.size w w.drew := ⟨rfl, rfl, rfl, Nat.le_refl _, fun _ _ => rfl⟩
    exact h1.alloc (Nat.le_refl _) _

/-- A byte of a text, bent. -/
def bentB (c : UInt8) (k : Int) : UInt8 := UInt8.ofNat (bits .xor .u8 (c.toNat : Int) (k % 256)).toNat
def bentS (s : ByteArray) (i : Nat) (k : Int) : ByteArray := ⟨(s.data.toList.set i (bentB (s.data.toList.getD i 0) k)).toArray⟩

theorem wrap_u8 (a : Int) : 0 ≤ IntKind.u8.wrap a ∧ IntKind.u8.wrap a < 256 := by
  have : IntKind.u8.wrap a = a % 256 := rfl
  omega
theorem bits_u8 (a b : Int) : 0 ≤ bits .xor .u8 a b ∧ bits .xor .u8 a b < 256 := by
  unfold bits
  exact wrap_u8 _
theorem bentB_val (c : UInt8) (k : Int) : ((bentB c k).toNat : Int) = bits .xor .u8 (c.toNat : Int) (k % 256) := by
  have h := bits_u8 (c.toNat : Int) (k % 256)
  unfold bentB
  rw [UInt8.toNat_ofNat_of_lt' (by show _ < 256; omega)]
  omega

theorem conv_back (s : ByteArray) (i : Nat) (k : Int) (W1 : World) (B C : Nat) (ha : i < s.size) (hcell : ∀ j (hj : j < s.data.size), W1.cell? ⟨B, j, none⟩ = some (.int .u8 (s.data[j].toNat : Int))) :
    (convert 53 9 (.slice (some ⟨B, 0, none⟩) s.size C)).run Try.prog (W1.setCell ⟨B, i, none⟩ (.int .u8 (bits .xor .u8 (s.data[i].toNat : Int) (k % 256)))) = .ok (.string (bentS s i k)) (W1.setCell ⟨B, i, none⟩ (.int .u8 (bits .xor .u8 (s.data[i].toNat : Int) (k % 256)))) := by
  have hsz : s.data.size = s.size := rfl
  have hlen : (s.data.toList.set i (bentB (s.data.toList.getD i 0) k)).length = s.size := by rw [List.length_set, Array.length_toList]; rfl
  have hgd : s.data.toList.getD i 0 = s.data[i] := by
    rw [List.getD_eq_getElem?_getD, Array.getElem?_toList, Array.getElem?_eq_getElem (show i < s.data.size from ha)]
    rfl
  have := run_convert_bytes_back (P := Try.prog) (W1.setCell ⟨B, i, none⟩ (.int .u8 (bits .xor .u8 (s.data[i].toNat : Int) (k % 256)))) 53 9 5 ⟨B, 0, none⟩ C (s.data.toList.set i (bentB (s.data.toList.getD i 0) k)) Try.underlying53 Try.underlying5 Try.underlying9 (by
    intro j hj
    rw [hlen] at hj
    have hadd : (⟨B, 0, none⟩ : Addr).add j = ⟨B, j, none⟩ := by unfold Addr.add; split <;> simp_all
    rw [hadd, List.getElem_set]
    by_cases hij : i = j
    · subst hij
      rw [if_pos rfl, bentB_val, hgd]
      exact World.cell?_setCell_same W1 _ _ (hcell i ha)
    · rw [if_neg hij]
      have hne : (⟨B, i, none⟩ : Addr) ≠ ⟨B, j, none⟩ := fun e => hij (by injection e)
      rw [World.cell?_setCell_other W1 _ _ _ hne, hcell j (by rw [hsz]; exact hj)]
      rfl)
  rw [hlen] at this
  exact this

set_option maxHeartbeats 1000000 in
set_option maxRecDepth 100000 in
theorem bent_any (s : ByteArray) (i : Nat) (k : Int) (w : World) (hs : s.size ≤ 200) (ha : i < s.size) (k0 : -9223372036854775808 ≤ k) (k1 : k ≤ 9223372036854775807) :
    Calls Try.prog 24 #[.string s, .int .i64 i, .int .i64 k] w fun e w' => e = .returned (.string (bentS s i k)) ∧ Below w.heap.size w w' := by
  obtain ⟨W1, C, hcv, hcell, hfz, hB⟩ := conv_bytes s w
  have c1 := hcell i ha
  have f1 := hfz i ha
  have j0 : (0 : Int) ≤ (i : Int) := by omega
  have j1 : (i : Int) < (s.size : Int) := by omega
  have hbk := conv_back s i k W1 w.heap.size C ha hcell
  have hlt : s.data[i].toNat < 256 := UInt8.toNat_lt _
  go_enter Try.func24, Try.ntmps24
  go_wp2
  go_ret
  exact ⟨rfl, hB.setCell (Nat.le_refl _) _⟩
end Go.Proofs.Ytpmjbkpooionbaa
