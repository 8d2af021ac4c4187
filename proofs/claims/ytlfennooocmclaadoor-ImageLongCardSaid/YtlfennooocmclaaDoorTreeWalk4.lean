/- The walks through inName and Match. -/
import Derived.Test.YtlfennooocmclaaDoorTreeWalk3
import Derived.Test.YtlfennooocmclaaDoorFit
import Derived.Deep.OwnRows
namespace Go.Proofs.YtlfennooocmclaaDoor
open Go.RowKit
set_option linter.unusedVariables false

theorem infoBool : (Tryd.prog.info? 4).map (fun i => (i.zero, i.size, i.bytes)) = some (some (.bool false), 1, 1) := by kernel_rfl
/-- Row k of the table. -/
def inRow (p s : List UInt8) (k i : Nat) : Bool := fitB nameStar nameOne (p.take k) (s.take i)
theorem bt_some {l : List UInt8} {i : Nat} (h : i < l.length) : l[i]? = some (bt l i) := by
  unfold bt
  rw [List.getD_eq_getElem?_getD, List.getElem?_eq_getElem h]
  rfl
section
variable {p s : List UInt8} {k i : Nat}
theorem inRow_zero (hi : i ≤ s.length) : inRow p s 0 i = decide (i = 0) := front_zero _ _ hi
theorem inRow_star0 (hk : k < p.length) (hc : bt p k = 42) : inRow p s (k + 1) 0 = inRow p s k 0 := front_star0 _ _ (bt_some hk) (by rw [hc]; rfl)
theorem inRow_star (hk : k < p.length) (hi : i < s.length) (hc : bt p k = 42) : inRow p s (k + 1) (i + 1) = (inRow p s k (i + 1) || inRow p s (k + 1) i) := front_star _ _ (bt_some hk) (by rw [hc]; rfl) (bt_some hi)
theorem notStar {c : UInt8} (h : c ≠ 42) : nameStar c = false := by unfold nameStar; rw [beq_eq_false_iff_ne]; exact h
theorem inRow_one0 (hk : k < p.length) (hc : bt p k ≠ 42) : inRow p s (k + 1) 0 = false := front_one0 _ _ (bt_some hk) (notStar hc)
theorem inRow_one (hk : k < p.length) (hi : i < s.length) (hc : bt p k ≠ 42) : inRow p s (k + 1) (i + 1) = (inRow p s k i && nameOne (bt p k) (bt s i)) := front_one _ _ (bt_some hk) (notStar hc) (bt_some hi)
theorem inRow_end (hk : p.length ≤ k) (hi : s.length ≤ i) : inRow p s k i = inNameB p s := by unfold inRow inNameB; rw [List.take_of_length_le hk, List.take_of_length_le hi]
end
theorem brow_start {w : World} {g : Nat} {t : TypeId} {n : Nat} {p s : List UInt8} (h : Blk w g t (brow (n + 1) fun _ => false)) (hn : n = s.length) : Blk (w.setCell ⟨g, 0, none⟩ (.bool true)) g t (brow (n + 1) (inRow p s 0)) := by
  have h2 := h.set_ 0 (.bool true)
  rw [brow_set] at h2
  rwa [brow_congr (g := inRow p s 0)] at h2
  intro i hi
  rw [inRow_zero (by omega)]
  by_cases e : i = 0
  · simp [e]
  · simp [e]

end Go.Proofs.YtlfennooocmclaaDoor
