/- Chapter 22: a history that one log told, as it grows (plain). -/
import Derived.Test.YtakdngcgjahafaaDoorSp30
import Derived.Test.YtakdngcgjahafaaDoorSpG
namespace Go.Proofs.YtakdngcgjahafaaDoor
open Go.RowKit
set_option linter.unusedVariables false

structure TrueI (hs : List EvD) : Prop where
  ans : ∀ (i : Nat) (e : EvD), hs[i]? = some e → (doP (runL (hs.take i) ⟨0, []⟩) (callOf e)).2 = ansOf e
  time : ∀ (i : Nat) (e : EvD), hs[i]? = some e → e.asked = 10 * ((i : Int) + 1) ∧ 10 * ((i : Int) + 1) + 5 ≤ e.told ∧ e.told ≤ 10 * ((i : Int) + 1) + 29
  plain : ∀ e ∈ hs, Plain e.err
theorem TrueI.nil : TrueI [] := ⟨fun i e h => by simp at h, fun i e h => by simp at h, fun e h => by cases h⟩
theorem TrueI.snoc {hs : List EvD} (h : TrueI hs) {e : EvD} (ha : (doP (runL hs ⟨0, []⟩) (callOf e)).2 = ansOf e)
    (ht : e.asked = 10 * ((hs.length : Int) + 1) ∧ 10 * ((hs.length : Int) + 1) + 5 ≤ e.told ∧ e.told ≤ 10 * ((hs.length : Int) + 1) + 29) (hp : Plain e.err) : TrueI (hs ++ [e]) := by
  have key : ∀ (i : Nat) (x : EvD), (hs ++ [e])[i]? = some x → (i < hs.length ∧ hs[i]? = some x) ∨ (i = hs.length ∧ x = e) := by
    intro i x hx
    rcases Nat.lt_trichotomy i hs.length with hlt | hlt | hlt
    · rw [List.getElem?_append_left hlt] at hx
      exact .inl ⟨hlt, hx⟩
    · rw [List.getElem?_append_right (by omega), hlt, Nat.sub_self] at hx
      simp at hx
      exact .inr ⟨hlt, hx.symm⟩
    · rw [List.getElem?_eq_none (by rw [List.length_append]; simp; omega)] at hx; cases hx
  refine ⟨fun i x hx => ?_, fun i x hx => ?_, fun x hx => ?_⟩
  · rcases key i x hx with ⟨hlt, h1⟩ | ⟨rfl, rfl⟩
    · rw [List.take_append_of_le_length (by omega)]; exact h.ans i x h1
    · rw [List.take_append_of_le_length (Nat.le_refl _), List.take_length]; exact ha
  · rcases key i x hx with ⟨hlt, h1⟩ | ⟨rfl, rfl⟩
    · exact h.time i x h1
    · exact ht
  · rcases List.mem_append.1 hx with hx | hx
    · exact h.plain x hx
    · rw [List.mem_singleton] at hx; subst hx; exact hp
theorem TrueI.H {hs : List EvD} (h : TrueI hs) : TrueH hs := by
  refine ⟨h.ans, fun e he => ?_, fun i k e f hik he hf => ?_⟩
  · obtain ⟨i, hi⟩ := List.getElem?_of_mem he
    have h1 := (h.time i e hi).2.1
    have h2 := h.plain e he
    unfold openE openN
    have q1 : (e.told == 0) = false := by rw [beq_eq_false_iff_ne]; omega
    have q2 : (e.err == 17) = false := by rw [beq_eq_false_iff_ne]; exact h2.2.2
    have q3 : (e.err == 16) = false := by rw [beq_eq_false_iff_ne]; exact h2.2.1
    have q4 : (e.err == 7) = false := by rw [beq_eq_false_iff_ne]; exact h2.1
    rw [q1, q2, q3, q4]
    rfl
  · have h1 := h.time i e he
    have h2 := h.time k f hf
    omega
theorem TrueI.right {hs : List EvD} (h : TrueI hs) (hl : hs.length ≤ 256) : rightP hs = true := by
  unfold rightP
  rw [Bool.and_eq_true]
  refine ⟨decide_eq_true hl, ?_⟩
  rw [List.all_eq_true]
  intro e he
  obtain ⟨i, hi⟩ := List.getElem?_of_mem he
  have h1 := h.time i e hi
  unfold goodE
  rw [decide_eq_false (show ¬ e.asked < 1 by omega), decide_eq_false (show ¬ e.told < 0 by omega), decide_eq_false (show ¬ e.told < e.asked by omega)]
  simp
def GoodT (g : LogD) : Prop := ∀ s ∈ g.trees, ∃ fs : List FileD, s = ofS fs ∧ ofE fs = 0 ∧ fs.length ≤ 1000 ∧ ∀ f ∈ fs, FOk f
theorem GoodT.has {g : LogD} (h : GoodT g) (n : Int) : (∀ f ∈ (hasP g n).files, FOk f) ∧ (hasP g n).files.length ≤ 1000 := by
  unfold hasP
  by_cases c1 : 0 ≤ n ∧ n < g.floor
  · rw [if_pos c1]; exact ⟨by simp, by simp⟩
  · rw [if_neg c1]
    by_cases c2 : n < 0 ∨ (g.trees.length : Int) ≤ n
    · rw [if_pos c2]; exact ⟨by simp, by simp⟩
    · rw [if_neg c2]
      have hlt : n.toNat < g.trees.length := by omega
      have hs : g.trees[n.toNat]? = some (g.trees[n.toNat]'hlt) := List.getElem?_eq_getElem hlt
      obtain ⟨fs, e1, e2, e3, e4⟩ := h _ (List.mem_of_getElem? hs)
      show (∀ f ∈ (treeOf (g.trees.getD n.toNat ⟨#[]⟩)).2, FOk f) ∧ (treeOf (g.trees.getD n.toNat ⟨#[]⟩)).2.length ≤ 1000
      rw [List.getD_eq_getElem?_getD, hs, Option.getD_some, e1, tree_back e2]
      exact ⟨e4, e3⟩
theorem GoodT.step {g : LogD} (h : GoodT g) {k : CallD} (hk : ∀ f ∈ k.files, FOk f) (hl : k.files.length ≤ 8) : GoodT (doP g k).1 := by
  rcases do_trees g k with h1 | ⟨h1, h2, h3, _⟩
  · intro s hs; rw [h1] at hs; exact h s hs
  · intro s hs
    rw [h3] at hs
    rcases List.mem_append.1 hs with hs | hs
    · exact h s hs
    · rw [List.mem_singleton] at hs
      exact ⟨k.files, hs, h2, by omega, hk⟩
theorem GoodT.ans {g : LogD} (h : GoodT g) (k : CallD) : (∀ f ∈ (doP g k).2.files, FOk f) ∧ (doP g k).2.files.length ≤ 1000 := by
  have h0 : (∀ f ∈ ([] : List FileD), FOk f) ∧ ([] : List FileD).length ≤ 1000 := ⟨by simp, by simp⟩
  unfold doP
  by_cases h1 : k.kind = 1
  · rw [if_pos h1]
    by_cases h2 : ofE k.files ≠ 0
    · rw [if_pos h2]; exact h0
    · rw [if_neg h2]
      by_cases h3 : 32 ≤ (g.trees.length : Int) - g.floor
      · rw [if_pos h3]; exact h0
      · rw [if_neg h3]; exact h0
  · rw [if_neg h1]
    by_cases h2 : k.kind = 2
    · rw [if_pos h2]; exact h.has _
    · rw [if_neg h2]
      by_cases h3 : k.kind = 3
      · rw [if_pos h3]
        by_cases h4 : k.gen < 0
        · rw [if_pos h4]; exact h0
        · rw [if_neg h4]; exact h.has _
      · rw [if_neg h3]
        by_cases h4 : k.kind = 4 ∨ k.kind = 6
        · rw [if_pos h4]; exact h0
        · rw [if_neg h4]
          by_cases h5 : k.kind = 5
          · rw [if_pos h5]
            by_cases h6 : k.gen < 0
            · rw [if_pos h6]; exact h0
            · rw [if_neg h6]
              by_cases h7 : k.gen ≤ g.floor
              · rw [if_pos h7]; exact h0
              · rw [if_neg h7]
                by_cases h8 : (g.trees.length : Int) ≤ k.gen
                · rw [if_pos h8]; exact h0
                · rw [if_neg h8]; exact h0
          · rw [if_neg h5]; exact h0
/-- A history as it grows, whose answers the document told. -/
structure GrowH (W : World) (b : Nat) (V : Value) (l : List EvD) : Prop where
  row : W.ownsRow b 54 10 V l.length (ecells l)
  fs : ∀ e ∈ l, W.ownsRow 0 69 3 (.slice e.fA e.files.length e.fC) e.files.length (fcells e.files)
  an : ∀ e ∈ l, W.ownsRow 0 69 3 (.slice e.aA e.afiles.length e.aC) e.afiles.length (fcells e.afiles)
  fit : ∀ e ∈ l, EFit e
section
variable {W W' : World} {b : Nat} {V V' : Value} {l : List EvD}
theorem GrowH.hist (h : GrowH W b V l) : Hist W V l := ⟨own_mono h.row (Nat.zero_le _), h.fs, h.an⟩
theorem GrowH.below (h : GrowH W b V l) (hb : Below W.heap.size W W') : GrowH W' b V l := ⟨own_below h.row hb, fun e he => own_below (h.fs e he) hb, fun e he => own_below (h.an e he) hb, h.fit⟩
theorem GrowH.setbox {g i : Nat} {t : TypeId} {cs : Array Value} (h : GrowH W b V l) (hb : Blk W g t cs) (h1 : 54 ≠ t) (h2 : 69 ≠ t) (u : Value) : GrowH (W.setCell ⟨g, i, none⟩ u) b V l :=
  ⟨own_setbox h.row (own_blk_ne h.row hb h1), fun e he => own_setbox (h.fs e he) (own_blk_ne (h.fs e he) hb h2), fun e he => own_setbox (h.an e he) (own_blk_ne (h.an e he) hb h2), h.fit⟩
theorem GrowH.push {e : EvD} (h : GrowH W b V l) (g : W.grownBy W' V.ownBlock) (hr : W'.ownsRow b 54 10 V' (l.length + 1) (ecells l ++ ecell e)) (hf : W.ownsRow 0 69 3 (.slice e.fA e.files.length e.fC) e.files.length (fcells e.files))
    (ha : W.ownsRow 0 69 3 (.slice e.aA e.afiles.length e.aC) e.afiles.length (fcells e.afiles)) (ho : EFit e) : GrowH W' b V' (l ++ [e]) := by
  have he : ecells (l ++ [e]) = ecells l ++ ecell e := by rw [ecells_app]; unfold ecells; simp
  refine ⟨by rw [he, List.length_append]; exact hr, fun x hx => ?_, fun x hx => ?_, fun x hx => ?_⟩
  · rcases List.mem_append.1 hx with hx | hx
    · exact (h.fs x hx).kept g (own_apart (h.fs x hx) h.row (by decide))
    · rw [List.mem_singleton] at hx; subst hx
      exact hf.kept g (own_apart hf h.row (by decide))
  · rcases List.mem_append.1 hx with hx | hx
    · exact (h.an x hx).kept g (own_apart (h.an x hx) h.row (by decide))
    · rw [List.mem_singleton] at hx; subst hx
      exact ha.kept g (own_apart ha h.row (by decide))
  · rcases List.mem_append.1 hx with hx | hx
    · exact h.fit x hx
    · rw [List.mem_singleton] at hx; subst hx
      exact ho
end
end Go.Proofs.YtakdngcgjahafaaDoor
