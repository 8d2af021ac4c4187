/- Chapter 22: the walk through find. -/
import Derived.Test.YtakdngcgjahafaaDoorSpB
import Derived.Test.YtakdngcgjahafaaDoorSp6
namespace Go.Proofs.YtakdngcgjahafaaDoor
open Go.RowKit
set_option linter.unusedVariables false

/-- A log of at most m trees, each an image. -/
structure GoodL (g : LogD) (m : Nat) : Prop where
  f0 : 0 ≤ g.floor
  f1 : g.floor ≤ g.trees.length
  n : g.trees.length ≤ m
  s : ∀ s ∈ g.trees, s.size ≤ 524288
theorem ofS_size (l : List FileD) : (ofS l).size ≤ 524288 := by
  unfold ofS
  by_cases h : ofE l = 0
  · rw [if_pos h, ba_size]; exact (of_zero h).2
  · rw [if_neg h]; show (0 : Nat) ≤ _; omega
theorem do_good {g : LogD} {m : Nat} (h : GoodL g m) (k : CallD) : GoodL (doP g k).1 (m + 1) := by
  have h0 : GoodL g (m + 1) := ⟨h.f0, h.f1, Nat.le_succ_of_le h.n, h.s⟩
  have := h.f0
  have := h.f1
  have := h.n
  unfold doP
  repeat' split
  all_goals first
    | exact h0
    | skip
  · refine ⟨h.f0, ?_, ?_, ?_⟩
    · show _ ≤ ((g.trees ++ [_]).length : Int); rw [List.length_append]; simp; omega
    · show (g.trees ++ [_]).length ≤ _; rw [List.length_append]; simp; omega
    · intro s hs
      rcases List.mem_append.1 hs with hs | hs
      · exact h.s s hs
      · rw [List.mem_singleton] at hs
        subst hs
        exact ofS_size _
  · exact ⟨by show 0 ≤ k.gen; omega, by show k.gen ≤ (g.trees.length : Int); omega, Nat.le_succ_of_le h.n, h.s⟩
def EFit (e : EvD) : Prop := (∀ f ∈ e.files, FOk f) ∧ e.files.length ≤ 1000 ∧ e.afiles.length ≤ 1000
def FindOut (W : World) (b F D : Nat) (V : Value) (l : List EvD) (r : FindR) (e : Ending) (w' : World) : Prop := e = .returned (.bool r.ok) ∧ ∃ U', Fnd w' b F D V l r.d r.left U' r.o ∧ Kf b F D W w'
def undone (d : List Bool) : Nat := (d.filter fun q => !q).length
theorem undone_set : ∀ {d : List Bool} {i : Nat}, d[i]? = some false → undone (d.set i true) + 1 = undone d
  | [], i, h => by simp at h
  | q :: d, 0, h => by
    simp at h
    subst h
    simp [undone]
  | q :: d, i + 1, h => by
    have := undone_set (d := d) (i := i) (by simpa using h)
    cases q <;> simp [undone] at this ⊢ <;> omega
theorem own_len {w : World} {base : Nat} {e : TypeId} {size n : Nat} {v : Value} {xs : List Value} (h : w.ownsRow base e size v n xs) : n ≤ 9223372036854775807 := by
  rcases h.2 with ⟨_, h⟩ | ⟨g, c, cur, _, _, _, h1, h2, _⟩
  · omega
  · unfold maxLen at h2; omega
theorem evx {W : World} {g : Nat} {t : TypeId} {a b c d e f h i j k : Value} (q : Blk W g t #[a, b, c, d, e, f, h, i, j, k]) :
    W.cell? ⟨g, 0, none⟩ = some a ∧ W.cell? ⟨g, 1, none⟩ = some b ∧ W.cell? ⟨g, 2, none⟩ = some c ∧ W.cell? ⟨g, 3, none⟩ = some d ∧ W.cell? ⟨g, 4, none⟩ = some e ∧ W.cell? ⟨g, 5, none⟩ = some f ∧ W.cell? ⟨g, 6, none⟩ = some h ∧ W.cell? ⟨g, 7, none⟩ = some i ∧ W.cell? ⟨g, 8, none⟩ = some j ∧ W.cell? ⟨g, 9, none⟩ = some k :=
  ⟨q.cell 0, q.cell 1, q.cell 2, q.cell 3, q.cell 4, q.cell 5, q.cell 6, q.cell 7, q.cell 8, q.cell 9⟩
theorem Kf.blk {b F D g : Nat} {t tF tD : TypeId} {cs cF cD : Array Value} {w w' : World} (h : Kf b F D w w') (hb : Blk w g t cs) (hF : Blk w F tF cF) (hD : Blk w D tD cD) (h1 : t ≠ tF) (h2 : t ≠ tD) (h3 : t ≠ 3) : Blk w' g t cs := Fr.blk h hb (by
  rintro (hs | hs | ⟨_, cs', fz, hc⟩)
  · exact Blk.ne_ hb hF h1 hs
  · exact Blk.ne_ hb hD h2 hs
  · unfold Blk at hb
    rw [hb] at hc
    injection hc with hc
    injection hc with _ hc _
    exact h3 hc)
end Go.Proofs.YtakdngcgjahafaaDoor
