/- Chapter 22: a history as it was at a time (plain). -/
import Derived.Test.YtakdngcgjahafaaDoorSpC
namespace Go.Proofs.YtakdngcgjahafaaDoor
open Go.RowKit
set_option linter.unusedVariables false

/-- A change of an event that no order sees. -/
def Unseen (f : EvD → EvD) : Prop := ∀ e, (f e).asked = e.asked ∧ (f e).told = e.told ∧ callOf (f e) = callOf e ∧ ansOf (f e) = ansOf e ∧ (f e).kind = e.kind
theorem unseen_open {f : EvD → EvD} (hf : Unseen f) (e : EvD) : openE (f e) = openE e := by
  obtain ⟨_, h2, _, h4, _⟩ := hf e
  have h5 : (f e).err = e.err := congrArg AnsD.err h4
  unfold openE
  rw [h2, h5]
theorem over_map {f : EvD → EvD} (hf : Unseen f) : ∀ (l : List EvD) (d : List Bool), overP (l.map f) d = overP l d
  | [], _ => by simp [overP]
  | e :: l, [] => by simp [overP]
  | e :: l, q :: d => by rw [List.map_cons, overP, overP, over_map hf l d, unseen_open hf]
theorem freeGo_map {f : EvD → EvD} (hf : Unseen f) (i : Nat) (a : Int) : ∀ (l : List EvD) (d : List Bool) (k : Nat), freeGo i a k (l.map f) d = freeGo i a k l d
  | [], _, _ => by simp [freeGo]
  | e :: l, [], _ => by simp [freeGo]
  | e :: l, q :: d, k => by rw [List.map_cons, freeGo, freeGo, freeGo_map hf i a l d (k + 1), unseen_open hf, (hf e).2.1]
theorem takes_map {f : EvD → EvD} (hf : Unseen f) (g : LogD) (e : EvD) : takes g (f e) = takes g e := by
  unfold takes
  rw [unseen_open hf, (hf e).2.2.1, (hf e).2.2.2.1, (hf e).2.2.2.2]
theorem tells_map {f : EvD → EvD} (hf : Unseen f) (g : LogD) (e : EvD) : tells g (f e) = tells g e := by
  unfold tells
  rw [unseen_open hf, (hf e).2.2.1, (hf e).2.2.2.1]
theorem tries_map {f : EvD → EvD} (hf : Unseen f) (rc : LogD → List Bool → Int → List Nat → FindR) (l : List EvD) (g : LogD) : ∀ (rest : List EvD) (i : Nat) (d : List Bool) (left : Int) (o : List Nat),
    triesP rc (l.map f) g i (rest.map f) d left o = triesP rc l g i rest d left o
  | [], _, _, _, _ => rfl
  | e :: rest, i, d, left, o => by
    have h : ∀ (d' : List Bool) (left' : Int) (o' : List Nat), triesP rc (l.map f) g (i + 1) (rest.map f) d' left' o' = triesP rc l g (i + 1) rest d' left' o' := fun d' left' o' => tries_map hf rc l g rest (i + 1) d' left' o'
    rw [List.map_cons, triesP, triesP, freeGo_map hf, takes_map hf, (hf e).1, (hf e).2.2.1]
    simp only [h]
theorem find_map {f : EvD → EvD} (hf : Unseen f) : ∀ (n : Nat) (l : List EvD), findP n (l.map f) = findP n l
  | 0, l => by funext g d left o; rfl
  | n + 1, l => by
    funext g d left o
    rw [findP, findP, over_map hf, find_map hf n l, tries_map hf]
theorem right_map {f : EvD → EvD} (hf : Unseen f) (l : List EvD) : rightP (l.map f) = rightP l := by
  unfold rightP
  rw [List.length_map, List.all_map]
  congr 1
  apply List.all_congr rfl
  intro e
  show goodE (f e) = goodE e
  unfold goodE
  rw [(hf e).1, (hf e).2.1]
theorem order_map {f : EvD → EvD} (hf : Unseen f) (l : List EvD) (steps : Int) : orderP (l.map f) steps = orderP l steps := by
  unfold orderP
  rw [right_map hf, find_map hf, List.length_map]
def coreE (e : EvD) : EvD := ⟨e.asked, e.told, e.kind, e.gen, none, 0, e.files, e.err, e.agen, e.floor, none, 0, e.afiles, none, 0, 0⟩
theorem core_unseen : Unseen coreE := fun e => ⟨rfl, rfl, rfl, rfl, rfl⟩
theorem order_core {l m : List EvD} (h : l.map coreE = m.map coreE) (steps : Int) : orderP l steps = orderP m steps := by
  rw [← order_map core_unseen l, h, order_map core_unseen m]
/-! the cut -/
def cutE (t : Int) (e : EvD) : EvD := if t < e.told then ⟨e.asked, 0, e.kind, e.gen, e.fA, e.fC, e.files, 0, 0, 0, none, 0, [], none, 0, 0⟩ else e
def keepE (t : Int) (e : EvD) : Bool := decide (e.asked ≤ t)
def cutL (t : Int) (l : List EvD) : List EvD := (l.filter (keepE t)).map (cutE t)
def cpos (t : Int) (l : List EvD) (k : Nat) : Nat := ((l.take k).filter (keepE t)).length
theorem cut_asked (t : Int) (e : EvD) : (cutE t e).asked = e.asked := by unfold cutE; split <;> rfl
theorem cut_call (t : Int) (e : EvD) : callOf (cutE t e) = callOf e := by unfold cutE; split <;> rfl
theorem cut_kind (t : Int) (e : EvD) : (cutE t e).kind = e.kind := by unfold cutE; split <;> rfl
theorem cut_shut {t : Int} {e : EvD} (h : openE (cutE t e) = false) : e.told ≤ t ∧ cutE t e = e := by
  unfold cutE at h ⊢
  by_cases h1 : t < e.told
  · rw [if_pos h1] at h
    unfold openE at h
    simp at h
  · rw [if_neg h1]
    exact ⟨by omega, rfl⟩
theorem cut_at {t : Int} {l : List EvD} {k : Nat} {e : EvD} (h : l[k]? = some e) (ha : e.asked ≤ t) : (cutL t l)[cpos t l k]? = some (cutE t e) := by
  have e1 : l = l.take k ++ e :: l.drop (k + 1) := by rw [← drop_head h, List.take_append_drop]
  unfold cutL cpos
  conv => lhs; arg 1; rw [e1]
  rw [List.filter_append, List.map_append, List.getElem?_append_right (by rw [List.length_map]; omega), List.length_map, Nat.sub_self, List.filter_cons, if_pos (by unfold keepE; exact decide_eq_true ha)]
  rfl
theorem cut_of {t : Int} : ∀ {l : List EvD} {k' : Nat} {e' : EvD}, (cutL t l)[k']? = some e' → ∃ k e, l[k]? = some e ∧ e.asked ≤ t ∧ cpos t l k = k' ∧ e' = cutE t e
  | [], k', e', h => by simp [cutL] at h
  | x :: l, k', e', h => by
    unfold cutL at h
    rw [List.filter_cons] at h
    by_cases hx : keepE t x = true
    · rw [if_pos hx, List.map_cons] at h
      cases k' with
      | zero =>
        simp at h
        exact ⟨0, x, rfl, of_decide_eq_true hx, rfl, h.symm⟩
      | succ k' =>
        obtain ⟨k, e, h1, h2, h3, h4⟩ := cut_of (l := l) (k' := k') (e' := e') (by simpa [cutL] using h)
        refine ⟨k + 1, e, h1, h2, ?_, h4⟩
        unfold cpos at h3 ⊢
        rw [List.take_succ_cons, List.filter_cons, if_pos hx, List.length_cons, h3]
    · rw [if_neg hx] at h
      obtain ⟨k, e, h1, h2, h3, h4⟩ := cut_of (l := l) (k' := k') (e' := e') h
      refine ⟨k + 1, e, h1, h2, ?_, h4⟩
      unfold cpos at h3 ⊢
      rw [List.take_succ_cons, List.filter_cons, if_neg hx, h3]
theorem cpos_lt {t : Int} {l : List EvD} {k k2 : Nat} {e : EvD} (h : l[k]? = some e) (ha : e.asked ≤ t) (hk : k < k2) : cpos t l k < cpos t l k2 := by
  have h1 : cpos t l (k + 1) = cpos t l k + 1 := by
    unfold cpos
    rw [List.take_add_one, h, Option.toList_some, List.filter_append, List.length_append, List.filter_cons, if_pos (by unfold keepE; exact decide_eq_true ha)]
    rfl
  have h2 : cpos t l (k + 1) ≤ cpos t l k2 := by
    unfold cpos
    have : l.take (k + 1) = (l.take k2).take (k + 1) := by rw [List.take_take]; congr 1; omega
    rw [this]
    exact ((List.take_sublist _ _).filter _).length_le
  omega
theorem cpos_inj {t : Int} {l : List EvD} {k k2 : Nat} {e e2 : EvD} (h : l[k]? = some e) (ha : e.asked ≤ t) (h2 : l[k2]? = some e2) (ha2 : e2.asked ≤ t) (he : cpos t l k = cpos t l k2) : k = k2 := by
  rcases Nat.lt_trichotomy k k2 with hlt | hlt | hlt
  · have := cpos_lt h ha hlt; omega
  · exact hlt
  · have := cpos_lt h2 ha2 hlt; omega
theorem do_forms (g : LogD) (k : CallD) : (doP g k).1 = g ∨ (doP g k).2.err = 0 := by
  unfold doP
  by_cases h1 : k.kind = 1
  · rw [if_pos h1]
    by_cases h2 : ofE k.files ≠ 0
    · rw [if_pos h2]; exact .inl rfl
    · rw [if_neg h2]
      by_cases h3 : 32 ≤ (g.trees.length : Int) - g.floor
      · rw [if_pos h3]; exact .inl rfl
      · rw [if_neg h3]; exact .inr rfl
  · rw [if_neg h1]
    by_cases h2 : k.kind = 2
    · rw [if_pos h2]; exact .inl rfl
    · rw [if_neg h2]
      by_cases h3 : k.kind = 3
      · rw [if_pos h3]
        by_cases h4 : k.gen < 0
        · rw [if_pos h4]; exact .inl rfl
        · rw [if_neg h4]; exact .inl rfl
      · rw [if_neg h3]
        by_cases h4 : k.kind = 4 ∨ k.kind = 6
        · rw [if_pos h4]; exact .inl rfl
        · rw [if_neg h4]
          by_cases h5 : k.kind = 5
          · rw [if_pos h5]
            by_cases h6 : k.gen < 0
            · rw [if_pos h6]; exact .inl rfl
            · rw [if_neg h6]
              by_cases h7 : k.gen ≤ g.floor
              · rw [if_pos h7]; exact .inl rfl
              · rw [if_neg h7]
                by_cases h8 : (g.trees.length : Int) ≤ k.gen
                · rw [if_pos h8]; exact .inl rfl
                · rw [if_neg h8]; exact .inr rfl
          · rw [if_neg h5]; exact .inl rfl
theorem do_err {g : LogD} {k : CallD} (h : (doP g k).2.err ≠ 0) : (doP g k).1 = g := by
  rcases do_forms g k with h1 | h1
  · exact h1
  · exact absurd h1 h
structure CutR (t : Int) (l : List EvD) (d d' : List Bool) : Prop where
  len : d'.length = (cutL t l).length
  len2 : d.length = l.length
  done : ∀ k e, l[k]? = some e → e.asked ≤ t → d'[cpos t l k]? = some true → d[k]? = some true
  shut : ∀ k e, l[k]? = some e → e.asked ≤ t → openE (cutE t e) = false → d'[cpos t l k]? = d[k]?
theorem CutR.skip {t : Int} {l : List EvD} {d d' : List Bool} (h : CutR t l d d') {i : Nat} {e : EvD} (he : l[i]? = some e) (ho : openE (cutE t e) = true) : CutR t l (d.set i true) d' := by
  have hi : i < d.length := by
    rw [h.len2]
    rcases Nat.lt_or_ge i l.length with h | h
    · exact h
    · rw [List.getElem?_eq_none h] at he; cases he
  refine ⟨h.len, by rw [List.length_set]; exact h.len2, fun k f hk ha hd => ?_, fun k f hk ha hf => ?_⟩
  · have := h.done k f hk ha hd
    rw [List.getElem?_set]
    by_cases hki : i = k
    · rw [if_pos hki, if_pos hi]
    · rw [if_neg hki]; exact this
  · rw [h.shut k f hk ha hf, List.getElem?_set]
    by_cases hki : i = k
    · subst hki
      rw [he] at hk
      injection hk with hk
      subst hk
      rw [ho] at hf; cases hf
    · rw [if_neg hki]
theorem CutR.take {t : Int} {l : List EvD} {d d' : List Bool} (h : CutR t l d d') {i : Nat} {e : EvD} (he : l[i]? = some e) (ha : e.asked ≤ t) : CutR t l (d.set i true) (d'.set (cpos t l i) true) := by
  have hi : i < d.length := by
    rw [h.len2]
    rcases Nat.lt_or_ge i l.length with h | h
    · exact h
    · rw [List.getElem?_eq_none h] at he; cases he
  have hi' : cpos t l i < d'.length := by
    have := cut_at he ha
    rw [h.len]
    rcases Nat.lt_or_ge (cpos t l i) (cutL t l).length with h | h
    · exact h
    · rw [List.getElem?_eq_none h] at this; cases this
  refine ⟨by rw [List.length_set]; exact h.len, by rw [List.length_set]; exact h.len2, fun k f hk hka hd => ?_, fun k f hk hka hf => ?_⟩
  · rw [List.getElem?_set]
    by_cases hki : i = k
    · rw [if_pos hki, if_pos hi]
    · rw [if_neg hki]
      rw [List.getElem?_set, if_neg (fun e' => hki (cpos_inj he ha hk hka e'))] at hd
      exact h.done k f hk hka hd
  · rw [List.getElem?_set, List.getElem?_set]
    by_cases hki : i = k
    · subst hki
      rw [if_pos rfl, if_pos rfl, if_pos hi, if_pos hi']
    · rw [if_neg hki, if_neg (fun e' => hki (cpos_inj he ha hk hka e'))]
      exact h.shut k f hk hka hf
theorem cut_run {t : Int} {l : List EvD} : ∀ (s : List Int) (d d' : List Bool) (g : LogD), CutR t l d d' → holdsGo takes l s d g = true → ∃ s', holdsGo takes (cutL t l) s' d' g = true
  | [], d, d', g, hc, h => by
    rw [holdsGo] at h
    refine ⟨[], ?_⟩
    rw [holdsGo, over_iff]
    intro k' e' hk' hd'
    obtain ⟨k, e, h1, h2, rfl, rfl⟩ := cut_of hk'
    cases ho : openE (cutE t e) with
    | true => rfl
    | false =>
      obtain ⟨_, h4⟩ := cut_shut ho
      have hd : d[k]? = some false := by rw [← hc.shut k e h1 h2 ho]; exact hd'
      rw [h4] at ho
      rw [(over_iff l d).1 h k e h1 hd] at ho
      cases ho
  | i :: s, d, d', g, hc, h => by
    rw [holdsGo] at h
    by_cases hi : i < 0
    · unfold atI at h; rw [if_pos hi] at h; cases h
    · obtain ⟨j, rfl⟩ := Int.eq_ofNat_of_zero_le (show 0 ≤ i by omega)
      rw [at_nat] at h
      cases he : l[j]? with
      | none => rw [he] at h; cases h
      | some e =>
        rw [he, Int.toNat_natCast] at h
        simp only [Bool.and_eq_true, Bool.not_eq_true'] at h
        obtain ⟨⟨⟨h1, h2⟩, h3⟩, h4⟩ := h
        have hd1 := getD_false h1
        have hfr := (free_iff j e.asked l d 0).1 h2
        by_cases ha : e.asked ≤ t
        · by_cases hx : openE (cutE t e) = true ∧ ¬ ((e.kind = 1 ∨ e.kind = 5) ∧ (doP g (callOf e)).2.err = 0)
          · have hg : (doP g (callOf e)).1 = g := by
              by_cases hk : e.kind = 1 ∨ e.kind = 5
              · exact do_err fun h0 => hx.2 ⟨hk, h0⟩
              · exact do_still (fun h => hk (.inl h)) (fun h => hk (.inr h))
            rw [hg] at h4
            exact cut_run s _ d' g (hc.skip he hx.1) h4
          · have hce := cut_at he ha
            obtain ⟨s', hs⟩ := cut_run s _ _ _ (hc.take he ha) h4
            refine ⟨(cpos t l j : Int) :: s', ?_⟩
            have hdp : d'.getD (cpos t l j) true = false := by
              have hlt : cpos t l j < d'.length := by
                rw [hc.len]
                rcases Nat.lt_or_ge (cpos t l j) (cutL t l).length with h | h
                · exact h
                · rw [List.getElem?_eq_none h] at hce; cases hce
              rw [List.getD_eq_getElem?_getD, List.getElem?_eq_getElem hlt]
              cases hq : d'[cpos t l j] with
              | false => rfl
              | true =>
                have := hc.done j e he ha (by rw [List.getElem?_eq_getElem hlt, hq])
                rw [this] at hd1; cases hd1
            have hfp : freeGo (cpos t l j) (cutE t e).asked 0 (cutL t l) d' = true := by
              rw [free_iff, cut_asked]
              intro k' f' hk' hd' hne ho
              obtain ⟨k, f, g1, g2, rfl, rfl⟩ := cut_of hk'
              obtain ⟨_, g4⟩ := cut_shut ho
              have hd : d[k]? = some false := by rw [← hc.shut k f g1 g2 ho]; exact hd'
              rw [g4] at ho ⊢
              refine hfr k f g1 hd ?_ ho
              intro hkj
              rw [Nat.zero_add] at hkj hne
              subst hkj
              exact hne rfl
            have htp : takes g (cutE t e) = true := by
              cases ho : openE (cutE t e) with
              | false =>
                rw [(cut_shut ho).2]
                exact h3
              | true =>
                have hh : (e.kind = 1 ∨ e.kind = 5) ∧ (doP g (callOf e)).2.err = 0 := Classical.byContradiction fun hn => hx ⟨ho, hn⟩
                unfold takes
                rw [ho, if_pos rfl, cut_call, cut_kind, hh.2]
                rcases hh.1 with h | h <;> rw [h] <;> rfl
            rw [holds_cons hce, hdp, hfp, htp, cut_call, hs]
            rfl
        · refine ⟨[], ?_⟩
          rw [holdsGo, over_iff]
          intro k' e' hk' hd'
          obtain ⟨k, f, g1, g2, rfl, rfl⟩ := cut_of hk'
          cases ho : openE (cutE t f) with
          | true => rfl
          | false =>
            exfalso
            obtain ⟨g3, g4⟩ := cut_shut ho
            have hd : d[k]? = some false := by rw [← hc.shut k f g1 g2 ho]; exact hd'
            rw [g4] at ho
            have := hfr k f g1 hd (by rintro hkj; rw [Nat.zero_add] at hkj; subst hkj; rw [he] at g1; injection g1 with g1; subst g1; exact ha g2) ho
            omega
theorem cut_right {t : Int} {l : List EvD} (h : rightP l = true) : rightP (cutL t l) = true := by
  unfold rightP at h ⊢
  rw [Bool.and_eq_true] at h ⊢
  have h1 := of_decide_eq_true h.1
  refine ⟨decide_eq_true ?_, ?_⟩
  · unfold cutL
    rw [List.length_map]
    exact Nat.le_trans (List.length_filter_le _ _) h1
  · rw [List.all_eq_true]
    intro e' he'
    unfold cutL at he'
    obtain ⟨e, he, rfl⟩ := List.mem_map.1 he'
    have hg := List.all_eq_true.1 h.2 e (List.mem_filter.1 he).1
    unfold goodE at hg ⊢
    simp only [Bool.and_eq_true, Bool.not_eq_true', decide_eq_false_iff_not, Bool.and_eq_false_imp, decide_eq_true_eq] at hg ⊢
    unfold cutE
    split
    · simp only []
      refine ⟨⟨hg.1.1, by omega⟩, fun h => by omega⟩
    · exact hg
theorem cut_order {t : Int} {l : List EvD} {s1 s2 : Int} (h : (orderP l s1).1 = 0) (h2 : 0 ≤ s2) : (orderP (cutL t l) s2).1 = 0 ∨ (orderP (cutL t l) s2).1 = 7 := by
  obtain ⟨hr, _, hh⟩ := order_ok h
  rcases order_is (l := cutL t l) (steps := s2) with h0 | h0 | h0 | h0
  · exact .inl h0
  · rcases order_err1.1 h0 with h | h
    · rw [cut_right hr] at h; cases h
    · omega
  · exact .inr h0
  · exfalso
    have hc : CutR t l (List.replicate l.length false) (List.replicate (cutL t l).length false) := by
      refine ⟨List.length_replicate, List.length_replicate, fun k e hk ha hd => ?_, fun k e hk ha _ => ?_⟩
      · rw [List.getElem?_replicate] at hd
        split at hd
        · injection hd with hd; cases hd
        · cases hd
      · have h1 := cut_at hk ha
        have l1 : cpos t l k < (cutL t l).length := by
          rcases Nat.lt_or_ge (cpos t l k) (cutL t l).length with h | h
          · exact h
          · rw [List.getElem?_eq_none h] at h1; cases h1
        have l2 : k < l.length := by
          rcases Nat.lt_or_ge k l.length with h | h
          · exact h
          · rw [List.getElem?_eq_none h] at hk; cases hk
        rw [List.getElem?_replicate, List.getElem?_replicate, if_pos l1, if_pos l2]
    obtain ⟨s', hs⟩ := cut_run _ _ _ _ hc hh
    have := order_none h0 s'
    rw [holds_tells _ _ _ _ hs] at this
    cases this
end Go.Proofs.YtakdngcgjahafaaDoor
