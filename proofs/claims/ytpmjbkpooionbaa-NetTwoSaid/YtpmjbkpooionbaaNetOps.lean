/- A script of calls (four numbers and a text each) as cells. -/
import Derived.Test.YtpmjbkpooionbaaFrame
set_option linter.unusedVariables false
namespace Go.Proofs.Ytpmjbkpooionbaa
open Go.RowKit

/-- A call of the script. -/
structure NOp where
  k : Int
  n : Int
  m : Int
  y : Int
  t : ByteArray
def NOp.cells (o : NOp) : List Value := [.int .i64 o.k, .int .i64 o.n, .int .i64 o.m, .int .i64 o.y, .string o.t]
def NOp.fits (o : NOp) : Prop := (-9223372036854775808 ≤ o.n ∧ o.n ≤ 9223372036854775807) ∧ (-9223372036854775808 ≤ o.m ∧ o.m ≤ 9223372036854775807) ∧ (-9223372036854775808 ≤ o.y ∧ o.y ≤ 9223372036854775807) ∧ o.t.size ≤ 9223372036854775807
def nopCells (l : List NOp) : List Value := l.flatMap NOp.cells
theorem nopCells_at {l : List NOp} {i j : Nat} {o : NOp} (h : l[i]? = some o) (hj : j < 5) : (nopCells l)[i * 5 + j]? = o.cells[j]? := by
  induction l generalizing i with
  | nil => simp at h
  | cons x l ih =>
    cases i with
    | zero =>
      simp at h
      subst h
      show (x.cells ++ nopCells l)[0 * 5 + j]? = _
      rw [List.getElem?_append_left (by show 0 * 5 + j < 5; omega)]
      congr 1
      omega
    | succ i =>
      simp only [List.getElem?_cons_succ] at h
      have := ih h
      show (x.cells ++ nopCells l)[(i + 1) * 5 + j]? = _
      rw [List.getElem?_append_right (by show 5 ≤ (i + 1) * 5 + j; omega)]
      show (nopCells l)[(i + 1) * 5 + j - 5]? = _
      rw [show (i + 1) * 5 + j - 5 = i * 5 + j by omega]
      exact this
theorem nop_at {w : World} {B : Nat} {A : Option Addr} {l : List NOp} {i : Nat} {o : NOp} (harr : Arr w B 5 A l.length (nopCells l)) (h : l[i]? = some o) :
    ∃ ab ao, A = some ⟨ab, ao, none⟩ ∧ ab < B ∧ w.cell? ⟨ab, ao + i * 5, none⟩ = some (.int .i64 o.k) ∧ w.cell? ⟨ab, ao + i * 5 + 1, none⟩ = some (.int .i64 o.n) ∧ w.cell? ⟨ab, ao + i * 5 + 2, none⟩ = some (.int .i64 o.m) ∧ w.cell? ⟨ab, ao + i * 5 + 3, none⟩ = some (.int .i64 o.y) ∧ w.cell? ⟨ab, ao + i * 5 + 4, none⟩ = some (.string o.t) := by
  have hil : i < l.length := by
    rcases Nat.lt_or_ge i l.length with h' | h'
    · exact h'
    · rw [List.getElem?_eq_none h'] at h; cases h
  obtain ⟨ab, ao, e, hab, hc⟩ := harr.2 (by omega)
  refine ⟨ab, ao, e, hab, ?_, ?_, ?_, ?_, ?_⟩
  · exact hc (i * 5) _ (by have := nopCells_at (j := 0) h (by omega); exact this)
  · rw [Nat.add_assoc]; exact hc (i * 5 + 1) _ (nopCells_at (j := 1) h (by omega))
  · rw [Nat.add_assoc]; exact hc (i * 5 + 2) _ (nopCells_at (j := 2) h (by omega))
  · rw [Nat.add_assoc]; exact hc (i * 5 + 3) _ (nopCells_at (j := 3) h (by omega))
  · rw [Nat.add_assoc]; exact hc (i * 5 + 4) _ (nopCells_at (j := 4) h (by omega))
end Go.Proofs.Ytpmjbkpooionbaa
