/- Chapter 22: what an order tells of restores; a history that one log told has an order. -/
import Derived.Test.YtakdngcgjahafaaDoorSpC
namespace Go.Proofs.YtakdngcgjahafaaDoor
open Go.RowKit
set_option linter.unusedVariables false

/-- The greatest generation that was acked ahead of a time. -/
def ackP : List EvD → Int → Int → Int
  | [], _, best => best
  | y :: l, at_, best => ackP l at_ (if y.kind = 1 ∧ 0 < y.told ∧ y.told < at_ ∧ y.err = 0 ∧ best < y.agen then y.agen else best)
theorem ack_le {at_ B : Int} : ∀ (l : List EvD) (best : Int), best ≤ B → (∀ y ∈ l, y.kind = 1 → 0 < y.told → y.told < at_ → y.err = 0 → y.agen ≤ B) → ackP l at_ best ≤ B
  | [], best, h, _ => h
  | y :: l, best, h, hl => by
    rw [ackP]
    refine ack_le l _ ?_ (fun x hx => hl x (List.mem_cons_of_mem _ hx))
    split
    · rename_i hc
      exact hl y (List.mem_cons_self ..) hc.1 hc.2.1 hc.2.2.1 hc.2.2.2.1
    · exact h
/-- What has come by now. -/
structure Came (l : List EvD) (d : List Bool) (g : LogD) : Prop where
  len : d.length = l.length
  tree : ∀ (t : Nat) (s : ByteArray), g.trees[t]? = some s → ∃ x ∈ l, x.kind = 1 ∧ ofE x.files = 0 ∧ s = ofS x.files ∧ ∀ (k : Nat) (e : EvD), l[k]? = some e → d[k]? = some false → openE e = false → x.asked ≤ e.told
  gen : ∀ (k : Nat) (y : EvD), l[k]? = some y → d[k]? = some true → openE y = false → y.kind = 1 → y.err = 0 → y.agen < g.trees.length
theorem set_get {d : List Bool} {i k : Nat} {q : Bool} (h : (d.set i true)[k]? = some q) : (k = i ∧ q = true) ∨ (k ≠ i ∧ d[k]? = some q) := by
  rw [List.getElem?_set] at h
  by_cases hk : i = k
  · rw [if_pos hk] at h
    by_cases hl : i < d.length
    · rw [if_pos hl] at h
      exact .inl ⟨hk.symm, by injection h with h; exact h.symm⟩
    · rw [if_neg hl] at h; cases h
  · rw [if_neg hk] at h
    exact .inr ⟨fun e => hk e.symm, h⟩
theorem do_trees (g : LogD) (k : CallD) : ((doP g k).1.trees = g.trees) ∨ (k.kind = 1 ∧ ofE k.files = 0 ∧ (doP g k).1.trees = g.trees ++ [ofS k.files] ∧ (doP g k).2 = ⟨0, g.trees.length, g.floor, []⟩) := by
  unfold doP
  by_cases h1 : k.kind = 1
  · rw [if_pos h1]
    by_cases h2 : ofE k.files ≠ 0
    · rw [if_pos h2]; exact .inl rfl
    · rw [if_neg h2]
      have h2' : ofE k.files = 0 := Classical.not_not.1 h2
      by_cases h3 : 32 ≤ (g.trees.length : Int) - g.floor
      · rw [if_pos h3]; exact .inl rfl
      · rw [if_neg h3]; exact .inr ⟨h1, h2', rfl, rfl⟩
  · rw [if_neg h1]
    left
    repeat' split
    all_goals rfl
theorem do_back (g : LogD) {k : CallD} (h1 : k.kind = 1) (he : (doP g k).2.err = 0) : (doP g k).2.gen = g.trees.length ∧ (doP g k).1.trees.length = g.trees.length + 1 := by
  unfold doP at he ⊢
  rw [if_pos h1] at he ⊢
  by_cases h2 : ofE k.files ≠ 0
  · rw [if_pos h2] at he; exact absurd he h2
  · rw [if_neg h2] at he ⊢
    by_cases h3 : 32 ≤ (g.trees.length : Int) - g.floor
    · rw [if_pos h3] at he; cases he
    · rw [if_neg h3]; exact ⟨rfl, by simp⟩
theorem Came.step {l : List EvD} {d : List Bool} {g : LogD} (h : Came l d g) {i : Nat} {e : EvD} (he : l[i]? = some e) (hd : d[i]? = some false) (hfr : freeGo i e.asked 0 l d = true) (ht : tells g e = true) : Came l (d.set i true) (doP g (callOf e)).1 := by
  have hfr' := (free_iff i e.asked l d 0).1 hfr
  refine ⟨by rw [List.length_set]; exact h.len, ?_, ?_⟩
  · intro t s hs
    rcases do_trees g (callOf e) with h1 | ⟨h1, h2, h3, h4⟩
    · rw [h1] at hs
      obtain ⟨x, hx, hk, ho, hs', hu⟩ := h.tree t s hs
      refine ⟨x, hx, hk, ho, hs', fun k f hf hq hop => ?_⟩
      rcases set_get hq with ⟨_, hq⟩ | ⟨_, hq⟩
      · cases hq
      · exact hu k f hf hq hop
    · rw [h3] at hs
      rcases Nat.lt_trichotomy t g.trees.length with hlt | hlt | hlt
      · rw [List.getElem?_append_left hlt] at hs
        obtain ⟨x, hx, hk, ho, hs', hu⟩ := h.tree t s hs
        refine ⟨x, hx, hk, ho, hs', fun k f hf hq hop => ?_⟩
        rcases set_get hq with ⟨_, hq⟩ | ⟨_, hq⟩
        · cases hq
        · exact hu k f hf hq hop
      · rw [List.getElem?_append_right (by omega), hlt, Nat.sub_self] at hs
        simp at hs
        refine ⟨e, List.mem_of_getElem? he, h1, h2, hs.symm, fun k f hf hq hop => ?_⟩
        rcases set_get hq with ⟨_, hq⟩ | ⟨hne, hq⟩
        · cases hq
        · have := hfr' k f hf hq (by omega) hop
          omega
      · rw [List.getElem?_eq_none (by rw [List.length_append]; simp; omega)] at hs; cases hs
  · intro k y hy hq hop hk1 hk0
    have hmono : g.trees.length ≤ (doP g (callOf e)).1.trees.length := by
      rcases do_trees g (callOf e) with h1 | ⟨_, _, h3, _⟩
      · rw [h1]; exact Nat.le_refl _
      · rw [h3, List.length_append]; omega
    rcases set_get hq with ⟨hki, _⟩ | ⟨_, hq⟩
    · subst hki
      rw [he] at hy
      injection hy with hy
      subst hy
      unfold tells at ht
      rw [hop, if_neg Bool.false_ne_true] at ht
      have ha : (doP g (callOf e)).2 = ansOf e := @of_decide_eq_true _ (Classical.propDecidable _) ht
      obtain ⟨h1, h2⟩ := do_back g (k := callOf e) hk1 (by rw [ha]; exact hk0)
      have h3 : e.agen = (g.trees.length : Int) := by
        have := congrArg AnsD.gen ha
        rw [h1] at this
        exact this.symm
      rw [h2]; omega
    · have := h.gen k y hy hq hop hk1 hk0
      omega
/-- What a restore that was told OK tells. -/
def RestE (l : List EvD) (e : EvD) : Prop := ackP l e.asked (-1) ≤ e.agen ∧ ofE e.afiles = 0 ∧ ∃ x ∈ l, x.kind = 1 ∧ x.asked ≤ e.told ∧ ofE x.files = 0 ∧ ofS e.afiles = ofS x.files
theorem rest_at {l : List EvD} {d : List Bool} {g : LogD} (h : Came l d g) {i : Nat} {e : EvD} (he : l[i]? = some e) (hd : d[i]? = some false) (hfr : freeGo i e.asked 0 l d = true) (ht : tells g e = true) (hk : e.kind = 2) (hop : openE e = false) (h0 : e.err = 0) : RestE l e := by
  have hfr' := (free_iff i e.asked l d 0).1 hfr
  unfold tells at ht
  rw [hop, if_neg Bool.false_ne_true] at ht
  have ha : (doP g (callOf e)).2 = ansOf e := @of_decide_eq_true _ (Classical.propDecidable _) ht
  have hk2 : (callOf e).kind = 2 := hk
  unfold doP at ha
  rw [if_neg (by omega), if_pos hk2] at ha
  have ha' : hasP g ((g.trees.length : Int) - 1) = ansOf e := ha
  unfold hasP at ha'
  by_cases c1 : 0 ≤ (g.trees.length : Int) - 1 ∧ (g.trees.length : Int) - 1 < g.floor
  · rw [if_pos c1] at ha'
    have := congrArg AnsD.err ha'
    have h2 : (18 : Int) = e.err := this
    omega
  · rw [if_neg c1] at ha'
    by_cases c2 : (g.trees.length : Int) - 1 < 0 ∨ (g.trees.length : Int) ≤ (g.trees.length : Int) - 1
    · rw [if_pos c2] at ha'
      have := congrArg AnsD.err ha'
      have h2 : (8 : Int) = e.err := this
      omega
    · rw [if_neg c2] at ha'
      have hgen : (g.trees.length : Int) - 1 = e.agen := congrArg AnsD.gen ha'
      have hfl : (treeOf (g.trees.getD ((g.trees.length : Int) - 1).toNat ⟨#[]⟩)).2 = e.afiles := congrArg AnsD.files ha'
      have hlt : ((g.trees.length : Int) - 1).toNat < g.trees.length := by omega
      have hs : g.trees[((g.trees.length : Int) - 1).toNat]? = some (g.trees[((g.trees.length : Int) - 1).toNat]'hlt) := List.getElem?_eq_getElem hlt
      obtain ⟨x, hx, hx1, hx0, hxs, hxu⟩ := h.tree _ _ hs
      rw [List.getD_eq_getElem?_getD, hs, Option.getD_some, hxs, tree_back hx0] at hfl
      have hfl' : x.files = e.afiles := hfl
      refine ⟨?_, by rw [← hfl']; exact hx0, x, hx, hx1, hxu i e he hd hop, hx0, by rw [hfl']⟩
      refine ack_le l (-1) (by omega) ?_
      intro y hy hy1 hyt hya hy0
      obtain ⟨k, hkk⟩ := List.getElem?_of_mem hy
      have hyo : openE y = false := by
        unfold openE openN
        rw [hy0]
        simp
        omega
      have hkd : ∃ q, d[k]? = some q := by
        have : k < l.length := by
          rcases Nat.lt_or_ge k l.length with h | h
          · exact h
          · rw [List.getElem?_eq_none h] at hkk; cases hkk
        exact ⟨_, List.getElem?_eq_getElem (by rw [h.len]; exact this)⟩
      obtain ⟨q, hq⟩ := hkd
      cases q with
      | true =>
        have := h.gen k y hkk hq hyo hy1 hy0
        omega
      | false =>
        have hki : k ≠ i := by
          rintro rfl
          rw [he] at hkk
          injection hkk with hkk
          subst hkk
          omega
        exact absurd hya (hfr' k y hkk hq (by omega) hyo)
theorem rest_run {l : List EvD} : ∀ (s : List Int) (d : List Bool) (g : LogD), Came l d g → holdsGo tells l s d g = true → ∀ (i : Nat) (e : EvD), l[i]? = some e → d[i]? = some false → e.kind = 2 → openE e = false → e.err = 0 → RestE l e
  | [], d, g, _, h, i, e, he, hd, _, hop, _ => by
    rw [holdsGo] at h
    have := (over_iff l d).1 h i e he hd
    rw [hop] at this; cases this
  | j :: s, d, g, hc, h, i, e, he, hd, hk, hop, h0 => by
    rw [holdsGo] at h
    by_cases hj : j < 0
    · unfold atI at h; rw [if_pos hj] at h; cases h
    · obtain ⟨m, rfl⟩ := Int.eq_ofNat_of_zero_le (show 0 ≤ j by omega)
      rw [at_nat] at h
      cases hm : l[m]? with
      | none => rw [hm] at h; cases h
      | some x =>
        rw [hm, Int.toNat_natCast] at h
        simp only [Bool.and_eq_true, Bool.not_eq_true'] at h
        obtain ⟨⟨⟨h1, h2⟩, h3⟩, h4⟩ := h
        have hd1 := getD_false h1
        by_cases hmi : m = i
        · subst hmi
          rw [hm] at he
          injection he with he
          subst he
          exact rest_at hc hm hd1 h2 h3 hk hop h0
        · refine rest_run s _ _ (hc.step hm hd1 h2 h3) h4 i e he ?_ hk hop h0
          rw [List.getElem?_set, if_neg hmi]
          exact hd
theorem came_new (l : List EvD) : Came l (List.replicate l.length false) ⟨0, []⟩ :=
  ⟨List.length_replicate, fun t s h => by simp at h, fun k y _ h => by
    rw [List.getElem?_replicate] at h
    split at h
    · injection h with h; cases h
    · cases h⟩
theorem rest_all {l : List EvD} {steps : Int} (h : (orderP l steps).1 = 0) (e : EvD) (he : e ∈ l) (hk : e.kind = 2) (hop : openE e = false) (h0 : e.err = 0) : RestE l e := by
  obtain ⟨_, _, hh⟩ := order_ok h
  obtain ⟨i, hi⟩ := List.getElem?_of_mem he
  refine rest_run _ _ _ (came_new l) (holds_tells _ _ _ _ hh) i e hi ?_ hk hop h0
  rw [List.getElem?_replicate, if_pos]
  rcases Nat.lt_or_ge i l.length with h | h
  · exact h
  · rw [List.getElem?_eq_none h] at hi; cases hi
end Go.Proofs.YtakdngcgjahafaaDoor
