/- The walks through Pattern and Match. -/
import Derived.Test.YtlfennooocmclaaDoorTreeWalk4
namespace Go.Proofs.YtlfennooocmclaaDoor
open Go.RowKit
set_option linter.unusedVariables false

/-! ### Match -/
/-- Row k of the table. -/
def mtRow (p s : List ByteArray) (k i : Nat) : Bool := fitB (fun a : ByteArray => pathStar a.data.toList) (fun a b : ByteArray => inNameB a.data.toList b.data.toList) (p.take k) (s.take i)
section
variable {p s : List ByteArray} {k i : Nat} {x y : ByteArray}
theorem mtRow_zero (hi : i ≤ s.length) : mtRow p s 0 i = decide (i = 0) := front_zero _ _ hi
theorem star2 : pathStar (⟨#[42, 42]⟩ : ByteArray).data.toList = true := rfl
theorem notStar2 (h : x ≠ ⟨#[42, 42]⟩) : pathStar x.data.toList = false := by unfold pathStar; rw [beq_eq_false_iff_ne]; exact fun e => h (ba_ext e)
theorem mtRow_star0 (hk : p[k]? = some ⟨#[42, 42]⟩) : mtRow p s (k + 1) 0 = mtRow p s k 0 := front_star0 _ _ hk star2
theorem mtRow_star (hk : p[k]? = some ⟨#[42, 42]⟩) (hi : s[i]? = some y) : mtRow p s (k + 1) (i + 1) = (mtRow p s k (i + 1) || mtRow p s (k + 1) i) := front_star _ _ hk star2 hi
theorem mtRow_one0 (hk : p[k]? = some x) (hc : x ≠ ⟨#[42, 42]⟩) : mtRow p s (k + 1) 0 = false := front_one0 _ _ hk (notStar2 hc)
theorem mtRow_one (hk : p[k]? = some x) (hc : x ≠ ⟨#[42, 42]⟩) (hi : s[i]? = some y) : mtRow p s (k + 1) (i + 1) = (mtRow p s k i && inNameB x.data.toList y.data.toList) := front_one _ _ hk (notStar2 hc) hi
end
theorem mtRow_end {p s : ByteArray} {k i : Nat} (hk : (pieces p).length ≤ k) (hi : (pieces s).length ≤ i) : mtRow (pieces p) (pieces s) k i = matchL p.data.toList s.data.toList := by
  unfold mtRow matchL
  rw [List.take_of_length_le hk, List.take_of_length_le hi, ← pieces_list, ← pieces_list, fitB_map]
theorem mtRow_start {w : World} {g : Nat} {t : TypeId} {p s : List ByteArray} (h : Blk w g t (brow (s.length + 1) fun _ => false)) : Blk (w.setCell ⟨g, 0, none⟩ (.bool true)) g t (brow (s.length + 1) (mtRow p s 0)) := by
  have h2 := h.set_ 0 (.bool true)
  rw [brow_set] at h2
  rwa [brow_congr (g := mtRow p s 0)] at h2
  intro i hi
  rw [mtRow_zero (by omega)]
  by_cases e : i = 0
  · simp [e]
  · simp [e]
theorem patE_long {p : ByteArray} (h : patE p.data.toList = 0) : p.size ≤ 200 := by
  rcases Nat.lt_or_ge 200 p.size with h2 | h2
  · unfold patE at h
    rw [if_pos (by rw [← bt_size]; exact h2)] at h
    cases h
  · exact h2
theorem pathE_long {p : ByteArray} (h : pathE p.data.toList = 0) : p.size ≤ 200 := by
  rcases Nat.lt_or_ge 200 p.size with h2 | h2
  · unfold pathE at h
    rw [if_pos (by rw [← bt_size]; exact h2)] at h
    cases h
  · exact h2
theorem str_cell {w : World} {g : Nat} {t : TypeId} {l : List ByteArray} {k : Nat} {x : ByteArray} (h : Blk w g t (l.map Value.string).toArray) (hx : l[k]? = some x) : w.cell? ⟨g, k, none⟩ = some (.string x) := by
  rw [h.cell]
  simp [hx]

end Go.Proofs.YtlfennooocmclaaDoor
