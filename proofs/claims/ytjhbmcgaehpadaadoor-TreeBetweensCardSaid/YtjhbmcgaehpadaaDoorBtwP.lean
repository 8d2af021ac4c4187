/- What became of paths, as plain data: the merge that the program walks. No program in sight. -/
import Derived.Test.YtjhbmcgaehpadaaDoorBtw1
namespace Go.Proofs.YtjhbmcgaehpadaaDoor
open Go.RowKit
set_option linter.unusedVariables false

structure ChD where
  kind : Int
  path : ByteArray
/-- One and the same path in both: what became of it. -/
def sameC (f g : ItemD) : List ChD := if f.size ≠ g.size ∨ f.mark ≠ g.mark then [⟨3, f.path⟩] else if f.mode ≠ g.mode then [⟨4, f.path⟩] else []
def btwGo : Nat → List ItemD → List ItemD → List ChD
  | 0, _, _ => []
  | _ + 1, [], [] => []
  | n + 1, f :: a, [] => ⟨1, f.path⟩ :: btwGo n a []
  | n + 1, [], g :: b => ⟨2, g.path⟩ :: btwGo n [] b
  | n + 1, f :: a, g :: b => if ordL f.path.data.toList g.path.data.toList < 0 then ⟨1, f.path⟩ :: btwGo n a (g :: b) else if 0 < ordL f.path.data.toList g.path.data.toList then ⟨2, g.path⟩ :: btwGo n (f :: a) b else sameC f g ++ btwGo n a b
def btwL (a b : List ItemD) : List ChD := btwGo (a.length + b.length) a b
def btwE (a b : List ItemD) : Int := if rightE a = 0 then rightE b else rightE a
section
variable {a b : List ItemD} {i j n : Nat} {f g : ItemD}
theorem btw_a (ha : a[i]? = some f) (hb : b.length ≤ j) : btwGo (n + 1) (a.drop i) (b.drop j) = ⟨1, f.path⟩ :: btwGo n (a.drop (i + 1)) (b.drop j) := by
  rw [drop_head ha, List.drop_eq_nil_of_le hb, btwGo]
theorem btw_b (ha : a.length ≤ i) (hb : b[j]? = some g) : btwGo (n + 1) (a.drop i) (b.drop j) = ⟨2, g.path⟩ :: btwGo n (a.drop i) (b.drop (j + 1)) := by
  rw [drop_head hb, List.drop_eq_nil_of_le ha, btwGo]
theorem btw_lt (ha : a[i]? = some f) (hb : b[j]? = some g) (h : ordL f.path.data.toList g.path.data.toList < 0) : btwGo (n + 1) (a.drop i) (b.drop j) = ⟨1, f.path⟩ :: btwGo n (a.drop (i + 1)) (b.drop j) := by
  rw [drop_head ha, drop_head hb, btwGo, if_pos h]
theorem btw_gt (ha : a[i]? = some f) (hb : b[j]? = some g) (h : 0 < ordL f.path.data.toList g.path.data.toList) : btwGo (n + 1) (a.drop i) (b.drop j) = ⟨2, g.path⟩ :: btwGo n (a.drop i) (b.drop (j + 1)) := by
  rw [drop_head ha, drop_head hb, btwGo, if_neg (by omega), if_pos h]
theorem btw_eq (ha : a[i]? = some f) (hb : b[j]? = some g) (h : ordL f.path.data.toList g.path.data.toList = 0) : btwGo (n + 1) (a.drop i) (b.drop j) = sameC f g ++ btwGo n (a.drop (i + 1)) (b.drop (j + 1)) := by
  rw [drop_head ha, drop_head hb, btwGo, if_neg (by omega), if_neg (by omega)]
theorem btw_end (ha : a.length ≤ i) (hb : b.length ≤ j) : btwGo n (a.drop i) (b.drop j) = [] := by
  rw [List.drop_eq_nil_of_le ha, List.drop_eq_nil_of_le hb]
  cases n <;> rw [btwGo]
end
/-- More fuel than items changes nothing. -/
theorem btw_fuel : ∀ (n m : Nat) (a b : List ItemD), a.length + b.length ≤ n → a.length + b.length ≤ m → btwGo n a b = btwGo m a b
  | 0, m, a, b, hn, _ => by
    have ha : a = [] := List.eq_nil_of_length_eq_zero (by omega)
    have hb : b = [] := List.eq_nil_of_length_eq_zero (by omega)
    subst ha
    subst hb
    cases m <;> simp [btwGo]
  | n + 1, 0, a, b, _, hm => by
    have ha : a = [] := List.eq_nil_of_length_eq_zero (by omega)
    have hb : b = [] := List.eq_nil_of_length_eq_zero (by omega)
    subst ha
    subst hb
    simp [btwGo]
  | n + 1, m + 1, [], [], _, _ => by simp [btwGo]
  | n + 1, m + 1, f :: a, [], hn, hm => by
    rw [btwGo, btwGo, btw_fuel n m a [] (by simp at hn ⊢; omega) (by simp at hm ⊢; omega)]
  | n + 1, m + 1, [], g :: b, hn, hm => by
    rw [btwGo, btwGo, btw_fuel n m [] b (by simp at hn ⊢; omega) (by simp at hm ⊢; omega)]
  | n + 1, m + 1, f :: a, g :: b, hn, hm => by
    rw [btwGo, btwGo, btw_fuel n m a (g :: b) (by simp at hn ⊢; omega) (by simp at hm ⊢; omega), btw_fuel n m (f :: a) b (by simp at hn ⊢; omega) (by simp at hm ⊢; omega), btw_fuel n m a b (by simp at hn ⊢; omega) (by simp at hm ⊢; omega)]
end Go.Proofs.YtjhbmcgaehpadaaDoor
