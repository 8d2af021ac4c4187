/- Chapter 22: a history that one log told has an order (plain). -/
import Derived.Test.YtakdngcgjahafaaDoorSp29
namespace Go.Proofs.YtakdngcgjahafaaDoor
open Go.RowKit
set_option linter.unusedVariables false

def runL : List EvD → LogD → LogD
  | [], g => g
  | e :: l, g => runL l (doP g (callOf e)).1
theorem run_snoc (l : List EvD) (e : EvD) : ∀ g : LogD, runL (l ++ [e]) g = (doP (runL l g) (callOf e)).1 := by
  induction l with
  | nil => intro g; rfl
  | cons x l ih => intro g; exact ih _
/-- A history as one log told it. -/
structure TrueH (l : List EvD) : Prop where
  ans : ∀ (i : Nat) (e : EvD), l[i]? = some e → (doP (runL (l.take i) ⟨0, []⟩) (callOf e)).2 = ansOf e
  told : ∀ e ∈ l, openE e = false
  free : ∀ (i k : Nat) (e f : EvD), i < k → l[i]? = some e → l[k]? = some f → ¬ f.told < e.asked
theorem tries_skip {rc : LogD → List Bool → Int → List Nat → FindR} {l : List EvD} {g : LogD} {d : List Bool} {left : Int} {o : List Nat} : ∀ (j : Nat), j ≤ l.length → (∀ k, k < j → d.getD k true = true) →
    triesP rc l g 0 l d left o = triesP rc l g j (l.drop j) d left o
  | 0, _, _ => rfl
  | j + 1, hj, hd => by
    rw [tries_skip j (by omega) (fun k hk => hd k (by omega))]
    obtain ⟨e, he⟩ : ∃ e, l[j]? = some e := ⟨_, List.getElem?_eq_getElem (by omega)⟩
    rw [drop_head he, triesP, hd j (by omega)]
    simp
def stateD (i m : Nat) : List Bool := List.replicate i true ++ List.replicate m false
theorem stateD_at (i m k : Nat) : (stateD i m)[k]? = if k < i then some true else if k < i + m then some false else none := by
  unfold stateD
  by_cases h1 : k < i
  · rw [if_pos h1, List.getElem?_append_left (by rw [List.length_replicate]; exact h1), List.getElem?_replicate, if_pos h1]
  · rw [if_neg h1, List.getElem?_append_right (by rw [List.length_replicate]; omega), List.length_replicate, List.getElem?_replicate]
    by_cases h2 : k < i + m
    · rw [if_pos h2, if_pos (by omega)]
    · rw [if_neg h2, if_neg (by omega)]
theorem stateD_set (i m : Nat) : (stateD i (m + 1)).set i true = stateD (i + 1) m := by
  apply List.ext_getElem?
  intro k
  rw [List.getElem?_set, stateD_at, stateD_at]
  have hl : (stateD i (m + 1)).length = i + (m + 1) := by unfold stateD; simp
  by_cases hk : i = k
  · subst hk
    rw [if_pos rfl, if_pos (by omega), if_pos (by omega)]
  · rw [if_neg hk]
    by_cases h1 : k < i
    · rw [if_pos h1, if_pos (by omega)]
    · rw [if_neg h1, if_neg (show ¬ k < i + 1 by omega)]
      by_cases h2 : k < i + (m + 1)
      · rw [if_pos h2, if_pos (by omega)]
      · rw [if_neg h2, if_neg (by omega)]
theorem true_find {l : List EvD} (h : TrueH l) : ∀ (m i : Nat) (left : Int) (o : List Nat) (N : Nat), i + m = l.length → (m : Int) ≤ left → m < N → (findP N l (runL (l.take i) ⟨0, []⟩) (stateD i m) left o).ok = true
  | m, i, left, o, 0, _, _, hN => by omega
  | 0, i, left, o, N + 1, hl, _, _ => by
    rw [findP, if_pos]
    rw [over_iff]
    intro k e hk hd
    rw [stateD_at] at hd
    have : k < l.length := by
      rcases Nat.lt_or_ge k l.length with h | h
      · exact h
      · rw [List.getElem?_eq_none h] at hk; cases hk
    rw [if_pos (by omega)] at hd
    injection hd with hd; cases hd
  | m + 1, i, left, o, N + 1, hl, hleft, hN => by
    rw [findP]
    by_cases ho : overP l (stateD i (m + 1)) = true
    · rw [if_pos ho]
    · rw [if_neg ho, if_neg (by omega)]
      rw [tries_skip i (by omega) (fun k hk => by rw [List.getD_eq_getElem?_getD, stateD_at, if_pos hk]; rfl)]
      obtain ⟨e, he⟩ : ∃ e, l[i]? = some e := ⟨_, List.getElem?_eq_getElem (by omega)⟩
      have hop := h.told e (List.mem_of_getElem? he)
      have hf : freeGo i e.asked 0 l (stateD i (m + 1)) = true := by
        rw [free_iff]
        intro k f hk hd hne _
        rw [stateD_at] at hd
        by_cases h1 : k < i
        · rw [if_pos h1] at hd; injection hd with hd; cases hd
        · exact h.free i k e f (by omega) he hk
      have ht : takes (runL (l.take i) ⟨0, []⟩) e = true := by
        unfold takes
        rw [hop, if_neg Bool.false_ne_true]
        exact @decide_eq_true _ (Classical.propDecidable _) (h.ans i e he)
      have hg : (stateD i (m + 1)).getD i true = false := by
        rw [List.getD_eq_getElem?_getD, stateD_at, if_neg (by omega), if_pos (by omega)]
        rfl
      rw [drop_head he, triesP, if_neg (by rw [hg, hf, ht]; decide)]
      have ih := true_find h m (i + 1) (left - 1) (o ++ [i]) N (by omega) (by omega) (by omega)
      rw [List.take_add_one, he, Option.toList_some, run_snoc] at ih
      simp only [stateD_set]
      rw [if_pos ih]
      exact ih
theorem true_order {l : List EvD} (h : TrueH l) (hr : rightP l = true) {steps : Int} (hs : (l.length : Int) ≤ steps) : (orderP l steps).1 = 0 := by
  have h1 := true_find h l.length 0 steps [] 257 (by omega) hs (by have := right_len hr; omega)
  unfold orderP
  rw [hr, if_neg (by rintro (h | h); (cases h); omega)]
  have e : stateD 0 l.length = List.replicate l.length false := by unfold stateD; simp
  rw [e] at h1
  have h1' : (findP 257 l ⟨0, []⟩ (List.replicate l.length false) steps []).ok = true := h1
  rw [if_pos h1']
/-! the errors that a log tells -/
def Plain (n : Int) : Prop := n ≠ 7 ∧ n ≠ 16 ∧ n ≠ 17
theorem plain_of {n : Int} (h : n ≠ 7 ∧ n ≠ 16 ∧ n ≠ 17) : Plain n := h
theorem fileE_is (f : FileD) : Plain (fileE f) := by unfold fileE; (repeat' split); all_goals exact ⟨by decide, by decide, by decide⟩
theorem filesE_is : ∀ l : List FileD, Plain (filesE l)
  | [] => ⟨by decide, by decide, by decide⟩
  | f :: l => by
    rw [filesE]
    split
    · exact filesE_is l
    · exact fileE_is f
theorem pathE_is (t : List UInt8) : Plain (pathE t) := by unfold pathE; (repeat' split); all_goals exact ⟨by decide, by decide, by decide⟩
theorem pairE_is (q : Option (List UInt8)) (s : List UInt8) : Plain (pairE q s) := by unfold pairE; (repeat' split); all_goals exact ⟨by decide, by decide, by decide⟩
theorem stepE_is (q : Option (List UInt8)) (s : List UInt8) : Plain (stepE q s) := by
  unfold stepE
  split
  · exact pairE_is q s
  · exact pathE_is s
theorem pathsGo_is : ∀ (l : List (List UInt8)) (q : Option (List UInt8)), Plain (pathsGo q l)
  | [], q => by rw [pathsGo]; exact ⟨by decide, by decide, by decide⟩
  | s :: l, q => by
    rw [pathsGo]
    split
    · exact pathsGo_is l _
    · exact stepE_is q s
theorem ofE_is {l : List FileD} (h : l.length ≤ 256) : Plain (ofE l) := by
  have hp : Plain (pathsE (l.map (·.path.data.toList))) := by
    unfold pathsE
    rw [if_neg (by rw [List.length_map]; omega)]
    exact pathsGo_is _ _
  have hc : Plain (checkE l) := by
    unfold checkE
    split
    · exact filesE_is l
    · exact hp
  unfold ofE
  repeat' split
  all_goals first
    | exact hc
    | exact ⟨by decide, by decide, by decide⟩
theorem hasP_is (g : LogD) (n : Int) : Plain (hasP g n).err := by
  unfold hasP
  repeat' split
  all_goals first | exact (⟨by decide, by decide, by decide⟩ : Plain 18) | exact (⟨by decide, by decide, by decide⟩ : Plain 8) | exact (⟨by decide, by decide, by decide⟩ : Plain 0)
theorem pl0 : Plain 0 := ⟨by decide, by decide, by decide⟩
theorem pl1 : Plain 1 := ⟨by decide, by decide, by decide⟩
theorem pl2 : Plain 2 := ⟨by decide, by decide, by decide⟩
theorem do_plain {g : LogD} {k : CallD} (h : k.files.length ≤ 256) (hg : (g.trees.length : Int) - g.floor < 32) : Plain (doP g k).2.err := by
  unfold doP
  by_cases h1 : k.kind = 1
  · rw [if_pos h1]
    by_cases h2 : ofE k.files ≠ 0
    · rw [if_pos h2]; exact ofE_is h
    · rw [if_neg h2, if_neg (by omega)]; exact pl0
  · rw [if_neg h1]
    by_cases h2 : k.kind = 2
    · rw [if_pos h2]; exact hasP_is _ _
    · rw [if_neg h2]
      by_cases h3 : k.kind = 3
      · rw [if_pos h3]
        by_cases h4 : k.gen < 0
        · rw [if_pos h4]; exact pl2
        · rw [if_neg h4]; exact hasP_is _ _
      · rw [if_neg h3]
        by_cases h4 : k.kind = 4 ∨ k.kind = 6
        · rw [if_pos h4]; exact pl0
        · rw [if_neg h4]
          by_cases h5 : k.kind = 5
          · rw [if_pos h5]
            by_cases h6 : k.gen < 0
            · rw [if_pos h6]; exact pl2
            · rw [if_neg h6]
              by_cases h7 : k.gen ≤ g.floor
              · rw [if_pos h7]; exact pl0
              · rw [if_neg h7]
                by_cases h8 : (g.trees.length : Int) ≤ k.gen
                · rw [if_pos h8]; exact pl2
                · rw [if_neg h8]; exact pl0
          · rw [if_neg h5]; exact pl1
end Go.Proofs.YtakdngcgjahafaaDoor
