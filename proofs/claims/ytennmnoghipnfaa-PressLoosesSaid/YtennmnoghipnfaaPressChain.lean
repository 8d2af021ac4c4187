/- Chains of places: what the finder's tables hold, and that they lead to the best copy: no program in sight. -/
import Derived.Test.YtennmnoghipnfaaPressSlot
import Derived.Test.YtennmnoghipnfaaFrame
namespace Go.Proofs.Ytennmnoghipnfaa
open Go.RowKit
set_option linter.unusedVariables false

/-- The slot of the four bytes at a place. -/
def slotAt (t : List UInt8) (j : Nat) : Int := slotN (bat t j) (bat t (j + 1)) (bat t (j + 2)) (bat t (j + 3))
theorem slotAt_ge (t : List UInt8) (j : Nat) : 0 ≤ slotAt t j := slotN_ge _ _ _ _
theorem slotAt_lt (t : List UInt8) (j : Nat) : slotAt t j < 4096 := slotN_lt _ _ _ _
theorem slotAt_al {t : List UInt8} {a b n : Nat} (h : 4 ≤ al t a b n) : slotAt t a = slotAt t b := by
  have h0 := al_eq t n a b 0 (by omega)
  have h1 := al_eq t n a b 1 (by omega)
  have h2 := al_eq t n a b 2 (by omega)
  have h3 := al_eq t n a b 3 (by omega)
  unfold slotAt
  rw [h1, h2, h3]
  have h0' : bat t a = bat t b := h0
  rw [h0']

/-- The last place ahead of n with this slot, from 1 on; 0: none. -/
def lastAt (h : Nat → Int) (k : Int) : Nat → Nat
  | 0 => 0
  | n + 1 => if h n = k then n + 1 else lastAt h k n
theorem lastAt_le (h : Nat → Int) (k : Int) : ∀ n, lastAt h k n ≤ n
  | 0 => Nat.le_refl _
  | n + 1 => by
    rw [lastAt]
    have := lastAt_le h k n
    split <;> omega
theorem lastAt_is (h : Nat → Int) (k : Int) : ∀ n, 0 < lastAt h k n → h (lastAt h k n - 1) = k
  | 0 => fun h0 => by simp [lastAt] at h0
  | n + 1 => by
    rw [lastAt]
    split
    · rename_i e; intro _; exact e
    · exact lastAt_is h k n
theorem lastAt_gap (h : Nat → Int) (k : Int) : ∀ n j, lastAt h k n ≤ j → j < n → h j ≠ k
  | 0 => fun j _ hj => by omega
  | n + 1 => fun j hl hj => by
    rw [lastAt] at hl
    split at hl
    · omega
    · rename_i e
      by_cases hjn : j = n
      · rw [hjn]; exact e
      · exact lastAt_gap h k n j hl (by omega)

theorem best_gap (f : Nat → Nat) {x y : Nat} (hxy : x ≤ y) (h : ∀ d, x < d → d ≤ y → f d < 4) : best f (min y 4096) = best f (min x 4096) := by
  have := best_same f (m := min x 4096) (min y 4096 - min x 4096) (fun d h1 h2 => h d (by omega) (by omega))
  rwa [show min x 4096 + (min y 4096 - min x 4096) = min y 4096 by omega] at this

/-- What a walk through a chain has found, as against the best so far. -/
def Fnd (q : Nat × Nat) (back size : Nat) : Prop := (size < 4 ∧ q = (0, 0)) ∨ (4 ≤ size ∧ q = (back, size))

theorem alf_gap {t : List UInt8} {at_ d : Nat} (h : slotAt t (at_ - d) ≠ slotAt t at_) : alf t at_ d < 4 := by
  rcases Nat.lt_or_ge (alf t at_ d) 4 with hlt | hge
  · exact hlt
  · exact absurd (slotAt_al hge) h
theorem ch_init (t : List UInt8) (at_ : Nat) : Fnd (best (alf t at_) (min (at_ - lastAt (slotAt t) (slotAt t at_) at_) 4096)) 0 0 := by
  left
  refine ⟨by omega, ?_⟩
  rw [best_gap (alf t at_) (Nat.zero_le _) (fun d h1 h2 => alf_gap (lastAt_gap _ _ at_ (at_ - d) (by omega) (by omega)))]
  rfl
theorem ch_step {t : List UInt8} {at_ p back size : Nat} (hp : 0 < p) (hpa : p ≤ at_) (hd : at_ - (p - 1) ≤ 4096) (H : Fnd (best (alf t at_) (min (at_ - p) 4096)) back size) :
    Fnd (best (alf t at_) (min (at_ - lastAt (slotAt t) (slotAt t at_) (p - 1)) 4096)) (if size < al t (p - 1) at_ 259 then at_ - (p - 1) else back) (if size < al t (p - 1) at_ 259 then al t (p - 1) at_ 259 else size) := by
  have hl := lastAt_le (slotAt t) (slotAt t at_) (p - 1)
  rw [best_gap (alf t at_) (x := at_ - (p - 1)) (by omega) (fun d h1 h2 => alf_gap (lastAt_gap _ _ (p - 1) (at_ - d) (by omega) (by omega)))]
  have e1 : min (at_ - (p - 1)) 4096 = (at_ - p) + 1 := by omega
  have e2 : min (at_ - p) 4096 = at_ - p := by omega
  have e3 : alf t at_ (at_ - p + 1) = al t (p - 1) at_ 259 := by unfold alf; rw [show at_ - (at_ - p + 1) = p - 1 by omega]
  rw [e1]
  rw [e2] at H
  simp only [best]
  rw [e3, show at_ - p + 1 = at_ - (p - 1) by omega]
  generalize al t (p - 1) at_ 259 = n
  generalize best (alf t at_) (at_ - p) = q at H ⊢
  rcases H with ⟨h1, rfl⟩ | ⟨h1, rfl⟩
  · by_cases hn : size < n
    · rw [if_pos hn, if_pos hn]
      by_cases h4 : 4 ≤ n
      · rw [if_pos ⟨h4, by show 0 < n; omega⟩]
        exact .inr ⟨h4, rfl⟩
      · rw [if_neg (fun h => h4 h.1)]
        exact .inl ⟨by omega, rfl⟩
    · rw [if_neg hn, if_neg hn, if_neg (fun h => by have := h.1; omega)]
      exact .inl ⟨h1, rfl⟩
  · by_cases hn : size < n
    · rw [if_pos hn, if_pos hn, if_pos ⟨by omega, hn⟩]
      exact .inr ⟨by omega, rfl⟩
    · rw [if_neg hn, if_neg hn, if_neg (fun h => hn h.2)]
      exact .inr ⟨h1, rfl⟩
theorem ch_end {t : List UInt8} {at_ p back size : Nat} (hend : p = 0 ∨ 4096 < at_ - (p - 1)) (H : Fnd (best (alf t at_) (min (at_ - p) 4096)) back size) :
    Fnd (bst t at_) back size := by
  unfold bst
  have e : min (at_ - p) 4096 = min at_ 4096 := by omega
  rwa [e] at H
theorem fnd_lt {q : Nat × Nat} {back size : Nat} (H : Fnd q back size) (h : size < 4) : q = (0, 0) := by
  rcases H with h' | h'
  · exact h'.2
  · omega
theorem fnd_ge {q : Nat × Nat} {back size : Nat} (H : Fnd q back size) (h : ¬ size < 4) : q = (back, size) := by
  rcases H with h' | h'
  · omega
  · exact h'.2

theorem bst_short {t : List UInt8} {at_ : Nat} (h : t.length < at_ + 4) (ha : at_ ≤ t.length) : bst t at_ = (0, 0) := by
  rcases bst_cases t ha with hc | ⟨_, _, _, h4, _, h6, _⟩
  · exact hc
  · omega

/-! ### the tables -/
/-- Cells of a finder: the text, the chains' heads, the row of the places ahead, how many places are in chains. -/
structure FinC (cs : Array Value) (s : ByteArray) (g d : Nat) : Prop where
  size : cs.size = 4099
  c0 : cs[0]? = some (.string s)
  head : ∀ k, k < 4096 → cs[1 + k]? = some (.int .i64 (lastAt (slotAt s.data.toList) (k : Int) d : Nat))
  prev : cs[4097]? = some (.slice (some ⟨g, 0, none⟩) s.size s.size)
  done : cs[4098]? = some (.int .i64 d)
/-- Cells of the row of the places ahead. -/
structure PrvC (ps : Array Value) (s : ByteArray) (d : Nat) : Prop where
  size : ps.size = s.size
  int : ∀ j, j < s.size → ∃ v, ps[j]? = some (.int .i64 v)
  row : ∀ j, j < d → ps[j]? = some (.int .i64 (lastAt (slotAt s.data.toList) (slotAt s.data.toList j) j : Nat))
/-- A finder in block f, its row in block g. -/
structure Fin_ (w : World) (f g : Nat) (s : ByteArray) (d : Nat) : Prop where
  blk : ∃ cs, Blk w f 44 cs ∧ FinC cs s g d
  row : ∃ ps, Blk w g 3 ps ∧ PrvC ps s d

theorem FinC.set {cs : Array Value} {s : ByteArray} {g d : Nat} (h : FinC cs s g d) :
    FinC ((cs.setIfInBounds (1 + (slotAt s.data.toList d).toNat) (.int .i64 ((d : Int) + 1))).setIfInBounds 4098 (.int .i64 ((d : Int) + 1))) s g (d + 1) := by
  have h0 := slotAt_ge s.data.toList d
  have h1 := slotAt_lt s.data.toList d
  have hs := h.size
  refine ⟨by simp [hs], ?_, ?_, ?_, ?_⟩
  · rw [Array.getElem?_setIfInBounds_ne (by omega), Array.getElem?_setIfInBounds_ne (by omega)]; exact h.c0
  · intro k hk
    rw [Array.getElem?_setIfInBounds_ne (by omega), lastAt]
    by_cases he : slotAt s.data.toList d = (k : Int)
    · rw [if_pos he, he]
      rw [show ((k : Int)).toNat = k by omega, Array.getElem?_setIfInBounds_self_of_lt (by omega)]
      simp
    · rw [if_neg he, Array.getElem?_setIfInBounds_ne (by omega)]
      exact h.head k hk
  · rw [Array.getElem?_setIfInBounds_ne (by omega), Array.getElem?_setIfInBounds_ne (by omega)]; exact h.prev
  · rw [Array.getElem?_setIfInBounds_self_of_lt (by simp [hs])]; simp
theorem PrvC.set {ps : Array Value} {s : ByteArray} {d : Nat} (h : PrvC ps s d) (hd : d < s.size) :
    PrvC (ps.setIfInBounds d (.int .i64 (lastAt (slotAt s.data.toList) (slotAt s.data.toList d) d : Nat))) s (d + 1) := by
  refine ⟨by simp [h.size], fun j hj => ?_, fun j hj => ?_⟩
  · by_cases he : d = j
    · subst he
      exact ⟨_, Array.getElem?_setIfInBounds_self_of_lt (by rw [h.size]; exact hd)⟩
    · rw [Array.getElem?_setIfInBounds_ne he]; exact h.int j hj
  · by_cases he : d = j
    · subst he
      exact Array.getElem?_setIfInBounds_self_of_lt (by rw [h.size]; exact hd)
    · rw [Array.getElem?_setIfInBounds_ne he]; exact h.row j (by omega)

section
variable {w w' : World} {f g d : Nat} {s : ByteArray} {S : Nat → Prop}
theorem Fin_.ne (h : Fin_ w f g s d) : g ≠ f := by
  obtain ⟨cs, hb, _⟩ := h.blk
  obtain ⟨ps, hp, _⟩ := h.row
  exact hp.ne_ hb (by decide)
theorem Fin_.ltf (h : Fin_ w f g s d) : f < w.heap.size := by obtain ⟨cs, hb, _⟩ := h.blk; exact hb.lt
theorem Fin_.ltg (h : Fin_ w f g s d) : g < w.heap.size := by obtain ⟨cs, hb, _⟩ := h.row; exact hb.lt
theorem Fin_.drewN (h : Fin_ w f g s d) (n : Nat) : Fin_ (w.drewN n) f g s d := ⟨h.blk, h.row⟩
theorem Fin_.fr (h : Fin_ w f g s d) (hf : Fr S w w') (h1 : ¬ S f) (h2 : ¬ S g) : Fin_ w' f g s d := by
  obtain ⟨cs, hb, hc⟩ := h.blk
  obtain ⟨ps, hp, hq⟩ := h.row
  exact ⟨⟨cs, hf.blk hb h1, hc⟩, ⟨ps, hf.blk hp h2, hq⟩⟩
theorem Fin_.c0 (h : Fin_ w f g s d) : w.cell? ⟨f, 0, none⟩ = some (.string s) := by
  obtain ⟨cs, hb, hc⟩ := h.blk; rw [hb.cell]; exact hc.c0
theorem Fin_.cp (h : Fin_ w f g s d) : w.cell? ⟨f, 4097, none⟩ = some (.slice (some ⟨g, 0, none⟩) s.size s.size) := by
  obtain ⟨cs, hb, hc⟩ := h.blk; rw [hb.cell]; exact hc.prev
theorem Fin_.cd (h : Fin_ w f g s d) : w.cell? ⟨f, 4098, none⟩ = some (.int .i64 d) := by
  obtain ⟨cs, hb, hc⟩ := h.blk; rw [hb.cell]; exact hc.done
theorem Fin_.ch (h : Fin_ w f g s d) {k : Nat} (hk : k < 4096) : w.cell? ⟨f, 1 + k, none⟩ = some (.int .i64 (lastAt (slotAt s.data.toList) (k : Int) d : Nat)) := by
  obtain ⟨cs, hb, hc⟩ := h.blk; rw [hb.cell]; exact hc.head k hk
theorem Fin_.fz (h : Fin_ w f g s d) (i : Nat) : w.frozen? ⟨f, i, none⟩ = false := by
  obtain ⟨cs, hb, _⟩ := h.blk; exact hb.frozen i
theorem Fin_.gz (h : Fin_ w f g s d) (i : Nat) : w.frozen? ⟨g, i, none⟩ = false := by
  obtain ⟨cs, hb, _⟩ := h.row; exact hb.frozen i
theorem Fin_.cr (h : Fin_ w f g s d) {j : Nat} (hj : j < d) : w.cell? ⟨g, j, none⟩ = some (.int .i64 (lastAt (slotAt s.data.toList) (slotAt s.data.toList j) j : Nat)) := by
  obtain ⟨cs, hb, hc⟩ := h.row; rw [hb.cell]; exact hc.row j hj
theorem Fin_.ci (h : Fin_ w f g s d) {j : Nat} (hj : j < s.size) : ∃ v, w.cell? ⟨g, j, none⟩ = some (.int .i64 v) := by
  obtain ⟨cs, hb, hc⟩ := h.row; rw [hb.cell]; exact hc.int j hj
theorem Fin_.set (h : Fin_ w f g s d) (hd : d < s.size) :
    Fin_ (((w.setCell ⟨g, d, none⟩ (.int .i64 (lastAt (slotAt s.data.toList) (slotAt s.data.toList d) d : Nat))).setCell ⟨f, 1 + (slotAt s.data.toList d).toNat, none⟩ (.int .i64 ((d : Int) + 1))).setCell ⟨f, 4098, none⟩ (.int .i64 ((d : Int) + 1))) f g s (d + 1) := by
  have hne := h.ne
  obtain ⟨cs, hb, hc⟩ := h.blk
  obtain ⟨ps, hp, hq⟩ := h.row
  refine ⟨⟨_, ((hb.far (p := ⟨g, d, none⟩) (fun e => hne e.symm) _).set_ _ _).set_ _ _, hc.set⟩, ⟨_, ?_, hq.set hd⟩⟩
  exact Blk.far (Blk.far (hp.set_ d _) (p := ⟨f, 1 + (slotAt s.data.toList d).toNat, none⟩) hne _) (p := ⟨f, 4098, none⟩) hne _
end
end Go.Proofs.Ytennmnoghipnfaa
